/- Plain: marks flood a grey picture. -/
import Derived.Test.YtldbabigjfkdlaaGreyP
namespace Go.Proofs.Ytldbabigjfkdlaa
open Go.RowKit
/-- The first of the least of the first k. -/
def minTo (hs : List Int) : Nat → Nat
  | 0 => 0
  | k + 1 => if hs.getD k 0 < hs.getD (minTo hs k) 0 then k else minTo hs k
theorem minTo_lt (hs : List Int) : ∀ k, 0 < hs.length → k ≤ hs.length → minTo hs k < hs.length
  | 0, h, _ => h
  | k + 1, h, hk => by
    unfold minTo
    split
    · omega
    · exact minTo_lt hs k h (by omega)
/-- Marks, and those pixels that wait, with their heights. -/
abbrev FloS := List Int × List (Nat × Int)
def floPut (W H : Nat) (nums : List Int) (pos : Nat) (h : Int) (s : FloS) (q : Int × Int) : FloS :=
  if hasB W H q.1 q.2 && nbV W s.1 q.1 q.2 == 0 then (s.1.set (q.2 * W + q.1).toNat (s.1.getD pos 0), s.2 ++ [((q.2 * W + q.1).toNat, mxJ h (nbV W nums q.1 q.2))]) else s
def floBest (s : FloS) : Nat := minTo (s.2.map (·.2)) s.2.length
def floAt (s : FloS) : Nat × Int := s.2.getD (floBest s) (0, 0)
def floStep (W H : Nat) (nums : List Int) (s : FloS) : FloS := (nb4 W (floAt s).1).foldl (floPut W H nums (floAt s).1 (floAt s).2) (s.1, s.2.eraseIdx (floBest s))
inductive FloR (W H : Nat) (nums : List Int) : FloS → List Int → Prop
  | done {o : List Int} : FloR W H nums (o, []) o
  | more {s : FloS} {res : List Int} : 0 < s.2.length → FloR W H nums (floStep W H nums s) res → FloR W H nums s res
/-- How many are zero. -/
def zer (l : List Int) : Nat := l.countP (· == 0)
theorem zer_set : ∀ (l : List Int) (k : Nat) (v : Int), k < l.length → l.getD k 0 = 0 → v ≠ 0 → zer (l.set k v) + 1 = zer l
  | [], k, v, h, _, _ => by cases h
  | a :: al, 0, v, _, h1, h2 => by
    simp at h1
    subst h1
    simp [zer, h2]
  | a :: al, k + 1, v, h, h1, h2 => by
    have := zer_set al k v (by simpa using h) (by simpa using h1) h2
    unfold zer at *
    rw [List.set_cons_succ, List.countP_cons, List.countP_cons]
    omega
/-- What holds of all states: the marks of those that wait are not zero. -/
structure FloI (W H : Nat) (s : FloS) : Prop where
  len : s.1.length = H * W
  waits : ∀ p, p ∈ s.2 → p.1 < H * W ∧ s.1.getD p.1 0 ≠ 0
  nn : ∀ k, 0 ≤ s.1.getD k 0
def floM (s : FloS) : Nat := 2 * zer s.1 + s.2.length
theorem FloI.put {W H : Nat} {nums : List Int} {pos : Nat} {h : Int} {s : FloS} (hi : FloI W H s) (hp : s.1.getD pos 0 ≠ 0) (q : Int × Int) :
    FloI W H (floPut W H nums pos h s q) ∧ (floPut W H nums pos h s q).1.getD pos 0 ≠ 0 ∧ floM (floPut W H nums pos h s q) ≤ floM s := by
  unfold floPut
  split
  · rename_i hc
    rw [Bool.and_eq_true, beq_iff_eq] at hc
    obtain ⟨h1, h2⟩ := hc
    have hk := idx_lt h1
    unfold nbV at h2
    have hlen := hi.len
    have hz := zer_set s.1 _ (s.1.getD pos 0) (by omega) h2 hp
    refine ⟨⟨by simp only [List.length_set]; exact hlen, fun p hpm => ?_, ?_⟩, ?_, ?_⟩
    · simp only [List.mem_append, List.mem_singleton] at hpm
      simp only
      rcases hpm with hpm | rfl
      · obtain ⟨a1, a2⟩ := hi.waits p hpm
        refine ⟨a1, ?_⟩
        rw [getD_set _ _ _ _ (by omega)]
        split
        · exact hp
        · exact a2
      · refine ⟨hk, ?_⟩
        rw [getD_set _ _ _ _ (by omega), if_pos rfl]
        exact hp
    · intro j
      simp only
      rw [getD_set _ _ _ _ (by omega)]
      split
      · exact hi.nn _
      · exact hi.nn _
    · simp only
      rw [getD_set _ _ _ _ (by omega)]
      split
      · exact hp
      · exact hp
    · unfold floM
      simp only [List.length_append, List.length_singleton]
      omega
  · exact ⟨hi, hp, Nat.le_refl _⟩
theorem FloI.puts {W H : Nat} {nums : List Int} {pos : Nat} {h : Int} : ∀ (qs : List (Int × Int)) {s : FloS}, FloI W H s → s.1.getD pos 0 ≠ 0 →
    FloI W H (qs.foldl (floPut W H nums pos h) s) ∧ (qs.foldl (floPut W H nums pos h) s).1.getD pos 0 ≠ 0 ∧ floM (qs.foldl (floPut W H nums pos h) s) ≤ floM s
  | [], s, hi, hp => ⟨hi, hp, Nat.le_refl _⟩
  | q :: qs, s, hi, hp => by
    obtain ⟨a1, a2, a3⟩ := hi.put (nums := nums) (h := h) hp q
    obtain ⟨b1, b2, b3⟩ := FloI.puts (nums := nums) (h := h) qs a1 a2
    rw [List.foldl_cons]
    exact ⟨b1, b2, by omega⟩
theorem floBest_lt {s : FloS} (h : 0 < s.2.length) : floBest s < s.2.length := by
  have := minTo_lt (s.2.map (·.2)) s.2.length (by simpa using h) (by simp)
  simpa [floBest] using this
theorem floAt_mem {s : FloS} (h : 0 < s.2.length) : floAt s ∈ s.2 := by
  have hb := floBest_lt h
  unfold floAt
  rw [List.getD_eq_getElem?_getD, List.getElem?_eq_getElem hb]
  exact List.getElem_mem hb
theorem FloI.erase {W H : Nat} {s : FloS} (hi : FloI W H s) (h : 0 < s.2.length) : FloI W H (s.1, s.2.eraseIdx (floBest s)) ∧ floM (s.1, s.2.eraseIdx (floBest s)) + 1 = floM s := by
  refine ⟨⟨hi.len, fun p hp => hi.waits p (List.mem_of_mem_eraseIdx hp), hi.nn⟩, ?_⟩
  unfold floM
  simp only
  rw [List.length_eraseIdx, if_pos (floBest_lt h)]
  omega
theorem FloI.step {W H : Nat} {nums : List Int} {s : FloS} (hi : FloI W H s) (h : 0 < s.2.length) : FloI W H (floStep W H nums s) ∧ floM (floStep W H nums s) < floM s := by
  obtain ⟨e1, e2⟩ := hi.erase h
  have hp := (hi.waits _ (floAt_mem h)).2
  obtain ⟨a1, -, a3⟩ := FloI.puts (nums := nums) (h := (floAt s).2) (nb4 W (floAt s).1) e1 hp
  exact ⟨a1, by unfold floStep; omega⟩
theorem FloR.ex {W H : Nat} {nums : List Int} : ∀ (n : Nat) {s : FloS}, FloI W H s → floM s ≤ n → ∃ res, FloR W H nums s res
  | n, s, hi, hn => by
    rcases Nat.eq_zero_or_pos s.2.length with h | h
    · obtain ⟨o, ws⟩ := s
      have : ws = [] := List.length_eq_zero_iff.1 h
      subst this
      exact ⟨o, .done⟩
    · obtain ⟨a1, a2⟩ := hi.step (nums := nums) h
      cases n with
      | zero => omega
      | succ n =>
        obtain ⟨res, hr⟩ := FloR.ex n a1 (by omega)
        exact ⟨res, .more h hr⟩
theorem FloR.len {W H : Nat} {nums : List Int} {s : FloS} {res : List Int} (hi : FloI W H s) (h : FloR W H nums s res) : res.length = H * W := by
  induction h with
  | done => exact hi.len
  | more h0 _ ih => exact ih (hi.step h0).1
/-- Where it begins. -/
def floTo (marks nums : List Int) (k : Nat) : List (Nat × Int) := ((List.range k).filter fun k => !(marks.getD k 0 == 0)).map fun k => (k, nums.getD k 0)
theorem floTo_zero (marks nums : List Int) : floTo marks nums 0 = [] := rfl
theorem floTo_yes {marks nums : List Int} {k : Nat} (h : marks.getD k 0 ≠ 0) : floTo marks nums (k + 1) = floTo marks nums k ++ [(k, nums.getD k 0)] := by
  unfold floTo
  rw [List.range_succ, List.filter_append, List.map_append]
  have : (!(marks.getD k 0 == 0)) = true := by simpa using h
  simp only [List.filter_cons, this, if_true, List.filter_nil, List.map_cons, List.map_nil]
theorem floTo_no {marks nums : List Int} {k : Nat} (h : marks.getD k 0 = 0) : floTo marks nums (k + 1) = floTo marks nums k := by
  unfold floTo
  have : ([k].filter fun k => !(marks.getD k 0 == 0)) = [] := List.filter_eq_nil_iff.2 fun j hj => by
    rw [List.mem_singleton] at hj
    rw [hj, h]
    decide
  rw [List.range_succ, List.filter_append, List.map_append, this, List.map_nil, List.append_nil]
theorem floTo_len (marks nums : List Int) (k : Nat) : (floTo marks nums k).length ≤ k := by
  unfold floTo
  rw [List.length_map]
  exact Nat.le_trans (List.length_filter_le _ _) (Nat.le_of_eq List.length_range)
def floStart (marks nums : List Int) : FloS := (marks, floTo marks nums marks.length)
theorem FloI.start {W H : Nat} {marks nums : List Int} (h : marks.length = H * W) (hn : ∀ k, 0 ≤ marks.getD k 0) : FloI W H (floStart marks nums) :=
  ⟨h, fun p hp => by
    unfold floStart floTo at hp
    simp only [List.mem_map, List.mem_filter, List.mem_range] at hp
    obtain ⟨k, ⟨h1, h2⟩, rfl⟩ := hp
    refine ⟨by simp only; omega, ?_⟩
    simp only [floStart]
    simpa using h2, hn⟩
theorem zer_le (l : List Int) : zer l ≤ l.length := List.countP_le_length
theorem floM_start (marks nums : List Int) : floM (floStart marks nums) ≤ 3 * marks.length := by
  have h1 := zer_le marks
  have h2 := floTo_len marks nums marks.length
  unfold floM floStart
  simp only
  omega
/-- Of the heights. -/
theorem floBest_hs (s : FloS) : floBest s = minTo (s.2.map (·.2)) (s.2.map (·.2)).length := by unfold floBest; rw [List.length_map]
theorem map_eraseIdx {α β : Type} (f : α → β) (l : List α) (k : Nat) : (l.eraseIdx k).map f = (l.map f).eraseIdx k := by
  induction l generalizing k with
  | nil => rfl
  | cons a l ih =>
    cases k with
    | zero => rfl
    | succ k => simp [List.eraseIdx_cons_succ, ih]
theorem eraseIdx_cut {α : Type} (l : List α) (k : Nat) : l.eraseIdx k = l.take k ++ l.drop (k + 1) := List.eraseIdx_eq_take_drop_succ l k
theorem getD_map_pos (l : List (Nat × Int)) (k : Nat) : (l.map fun p => (p.1 : Int)).getD k 0 = ((l.getD k (0, 0)).1 : Int) := by
  rw [List.getD_eq_getElem?_getD, List.getD_eq_getElem?_getD, List.getElem?_map]
  cases l[k]? <;> rfl
theorem getD_map_hei (l : List (Nat × Int)) (k : Nat) : (l.map (·.2)).getD k 0 = (l.getD k (0, 0)).2 := by
  rw [List.getD_eq_getElem?_getD, List.getD_eq_getElem?_getD, List.getElem?_map]
  cases l[k]? <;> rfl
theorem floPut_yes {W H : Nat} {nums : List Int} {pos : Nat} {h : Int} {s : FloS} {q : Int × Int} (h1 : hasB W H q.1 q.2 = true) (h2 : s.1.getD (q.2 * W + q.1).toNat 0 = 0) :
    floPut W H nums pos h s q = (s.1.set (q.2 * W + q.1).toNat (s.1.getD pos 0), s.2 ++ [((q.2 * W + q.1).toNat, mxJ h (nums.getD (q.2 * W + q.1).toNat 0))]) := by
  unfold floPut nbV
  rw [h1, h2]
  rfl
theorem floPut_out {W H : Nat} {nums : List Int} {pos : Nat} {h : Int} {s : FloS} {q : Int × Int} (h1 : hasB W H q.1 q.2 = false) : floPut W H nums pos h s q = s := by
  unfold floPut
  rw [h1]
  rfl
theorem floPut_set {W H : Nat} {nums : List Int} {pos : Nat} {h : Int} {s : FloS} {q : Int × Int} (h2 : s.1.getD (q.2 * W + q.1).toNat 0 ≠ 0) : floPut W H nums pos h s q = s := by
  unfold floPut nbV
  have : (s.1.getD (q.2 * (W : Int) + q.1).toNat 0 == 0) = false := by simpa using h2
  rw [this, Bool.and_false]
  rfl
/-- Behind the first j neighbours. -/
def floJ (W H : Nat) (nums : List Int) (s : FloS) (j : Nat) : FloS := ((nb4 W (floAt s).1).take j).foldl (floPut W H nums (floAt s).1 (floAt s).2) (s.1, s.2.eraseIdx (floBest s))
theorem floJ_all (W H : Nat) (nums : List Int) (s : FloS) : floJ W H nums s 4 = floStep W H nums s := rfl
theorem floJ_succ (W H : Nat) (nums : List Int) (s : FloS) {j : Nat} (hj : j < 4) : floJ W H nums s (j + 1) = floPut W H nums (floAt s).1 (floAt s).2 (floJ W H nums s j) ((nb4 W (floAt s).1).getD j (0, 0)) := by
  have hl4 : (nb4 W (floAt s).1).length = 4 := rfl
  unfold floJ
  rw [List.take_succ_eq_append_getElem (by omega), List.foldl_append, List.getD_eq_getElem?_getD, List.getElem?_eq_getElem (by omega)]
  rfl
theorem FloI.j {W H : Nat} {nums : List Int} {s : FloS} (hi : FloI W H s) (h : 0 < s.2.length) (j : Nat) : FloI W H (floJ W H nums s j) ∧ (floJ W H nums s j).1.getD (floAt s).1 0 ≠ 0 ∧ floM (floJ W H nums s j) < floM s := by
  obtain ⟨e1, e2⟩ := hi.erase h
  have hp := (hi.waits _ (floAt_mem h)).2
  obtain ⟨a1, a2, a3⟩ := FloI.puts (nums := nums) (h := (floAt s).2) ((nb4 W (floAt s).1).take j) e1 hp
  exact ⟨a1, a2, by unfold floJ; omega⟩
end Go.Proofs.Ytldbabigjfkdlaa
