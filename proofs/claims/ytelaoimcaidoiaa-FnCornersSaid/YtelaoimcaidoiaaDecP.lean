/- Plain: offsets put in order, sums, mirrors, what is left of a sorted list without repetition. -/
import Derived.Test.YtelaoimcaidoiaaGenF
import Derived.Test.YtelaoimcaidoiaaElmI
namespace Go.Proofs.Ytelaoimcaidoiaa
open Go Go.RowKit
theorem bef_ord {p q : Int × Int} : befB p q = true ↔ ordJ p q < 0 := by rw [befB_iff, ordJ_neg]
/-- Offsets put in order, one after another. -/
def setL (ps : List (Int × Int)) : List (Int × Int) := ps.foldl putL []
theorem putL_iff {o x : Int × Int} : ∀ (ps : List (Int × Int)), x ∈ putL ps o ↔ x ∈ ps ∨ x = o
  | [] => by simp [putL, putAt]
  | p :: ps => by
    rw [putL_cons]
    split
    · rw [List.mem_cons, putL_iff ps, List.mem_cons, or_assoc]
    · split
      · rename_i h
        subst h
        constructor
        · exact .inl
        · rintro (h | rfl)
          · exact h
          · exact List.mem_cons_self ..
      · rw [List.mem_cons, or_comm]
theorem foldPut_iff {x : Int × Int} : ∀ (ps acc : List (Int × Int)), x ∈ ps.foldl putL acc ↔ x ∈ acc ∨ x ∈ ps
  | [], acc => by simp
  | p :: ps, acc => by rw [List.foldl_cons, foldPut_iff ps, putL_iff, List.mem_cons, or_assoc]
theorem foldPut_sorted : ∀ (ps acc : List (Int × Int)), acc.Pairwise (fun a b => befB a b = true) → (ps.foldl putL acc).Pairwise (fun a b => befB a b = true)
  | [], _, h => h
  | _ :: ps, _, h => foldPut_sorted ps _ (putL_sorted h)
theorem foldPut_len : ∀ (ps acc : List (Int × Int)), (ps.foldl putL acc).length ≤ acc.length + ps.length
  | [], acc => Nat.le_refl _
  | p :: ps, acc => by
    have h1 := foldPut_len ps (putL acc p)
    have h2 := (putL_len acc p).2.2
    rw [List.foldl_cons, List.length_cons]
    omega
theorem setL_iff {x : Int × Int} (ps : List (Int × Int)) : x ∈ setL ps ↔ x ∈ ps := by unfold setL; rw [foldPut_iff]; simp
theorem setL_len (ps : List (Int × Int)) : (setL ps).length ≤ ps.length := by have := foldPut_len ps []; simpa [setL] using this
theorem setL_sorted (ps : List (Int × Int)) : (setL ps).Pairwise (fun a b => befB a b = true) := foldPut_sorted ps [] List.Pairwise.nil
theorem setL_incr (ps : List (Int × Int)) : Incr (setL ps) := (setL_sorted ps).imp fun h => bef_ord.1 h
theorem setL_unique {qs ps : List (Int × Int)} (h : Incr qs) (hm : ∀ d, d ∈ qs ↔ d ∈ ps) : qs = setL ps := incr_unique _ _ h (setL_incr ps) fun d => by rw [hm, setL_iff]
theorem setL_self {ps : List (Int × Int)} (h : Incr ps) : setL ps = ps := (setL_unique h fun _ => Iff.rfl).symm
theorem setL_take (ps : List (Int × Int)) {k : Nat} (hk : k < ps.length) : setL (ps.take (k + 1)) = putL (setL (ps.take k)) (ps.getD k (0, 0)) := by
  unfold setL
  rw [List.take_succ_eq_append_getElem hk, List.foldl_append, List.getD_eq_getElem?_getD, List.getElem?_eq_getElem hk]
  rfl
theorem setL_snoc (ps : List (Int × Int)) (o : Int × Int) : setL (ps ++ [o]) = putL (setL ps) o := by
  unfold setL
  rw [List.foldl_append]
  rfl
/-- What Compact leaves of the first k. -/
def cmL (ps : List (Int × Int)) : Nat → List (Int × Int)
  | 0 => []
  | k + 1 => if 0 < k ∧ ps.getD k (0, 0) = ps.getD (k - 1) (0, 0) then cmL ps k else cmL ps k ++ [ps.getD k (0, 0)]
theorem cmL_one (ps : List (Int × Int)) : cmL ps 1 = [ps.getD 0 (0, 0)] := by rw [cmL, if_neg (fun h => Nat.lt_irrefl 0 h.1)]; rfl
theorem cmL_dup {ps : List (Int × Int)} {j : Nat} (h : ps.getD (j + 1) (0, 0) = ps.getD j (0, 0)) : cmL ps (j + 1 + 1) = cmL ps (j + 1) := by
  rw [cmL, if_pos ⟨Nat.succ_pos _, by rw [Nat.add_sub_cancel]; exact h⟩]
theorem cmL_new {ps : List (Int × Int)} {j : Nat} (h : ps.getD (j + 1) (0, 0) ≠ ps.getD j (0, 0)) : cmL ps (j + 1 + 1) = cmL ps (j + 1) ++ [ps.getD (j + 1) (0, 0)] := by
  rw [cmL, if_neg (by rw [Nat.add_sub_cancel]; exact fun e => h e.2)]
theorem cmL_len (ps : List (Int × Int)) : ∀ k, (cmL ps k).length ≤ k
  | 0 => Nat.le_refl _
  | k + 1 => by
    have := cmL_len ps k
    rw [cmL]
    split
    · omega
    · rw [List.length_append, List.length_singleton]; omega
theorem cmL_take {ps : List (Int × Int)} : ∀ {k : Nat}, k ≤ ps.length → (∀ j, j + 1 < k → ps.getD (j + 1) (0, 0) ≠ ps.getD j (0, 0)) → cmL ps k = ps.take k
  | 0, _, _ => rfl
  | k + 1, hk, h => by
    have ih := cmL_take (k := k) (by omega) fun j hj => h j (by omega)
    rw [cmL, if_neg, ih, List.take_succ_eq_append_getElem (by omega), List.getD_eq_getElem?_getD, List.getElem?_eq_getElem (show k < ps.length by omega)]
    · rfl
    · rintro ⟨h0, he⟩
      have := h (k - 1) (by omega)
      rw [show k - 1 + 1 = k by omega] at this
      exact this he
theorem cmL_mem {ps : List (Int × Int)} {d : Int × Int} : ∀ {k : Nat}, d ∈ cmL ps k ↔ ∃ i, i < k ∧ ps.getD i (0, 0) = d
  | 0 => by simp [cmL]
  | k + 1 => by
    rw [cmL]
    split
    · rename_i h
      rw [cmL_mem]
      constructor
      · rintro ⟨i, hi, e⟩
        exact ⟨i, by omega, e⟩
      · rintro ⟨i, hi, e⟩
        by_cases he : i = k
        · subst he
          exact ⟨i - 1, by omega, by rw [← h.2]; exact e⟩
        · exact ⟨i, by omega, e⟩
    · rw [List.mem_append, cmL_mem, List.mem_singleton]
      constructor
      · rintro (⟨i, hi, e⟩ | rfl)
        · exact ⟨i, by omega, e⟩
        · exact ⟨k, by omega, rfl⟩
      · rintro ⟨i, hi, e⟩
        by_cases he : i = k
        · subst he
          exact .inr e.symm
        · exact .inl ⟨i, by omega, e⟩
theorem pw_at {ps : List (Int × Int)} {R : Int × Int → Int × Int → Prop} (h : ps.Pairwise R) {i j : Nat} (hij : i < j) (hj : j < ps.length) : R (ps.getD i (0, 0)) (ps.getD j (0, 0)) := by
  rw [List.pairwise_iff_getElem] at h
  have := h i j (by omega) hj hij
  rw [List.getD_eq_getElem?_getD, List.getD_eq_getElem?_getD, List.getElem?_eq_getElem hj, List.getElem?_eq_getElem (show i < ps.length by omega)]
  exact this
theorem cmL_pair {ps : List (Int × Int)} {R : Int × Int → Int × Int → Prop} (hs : ps.Pairwise fun a b => ¬ R b a) (tot : ∀ a b, ¬ R b a → a ≠ b → R a b) (tr : ∀ a b c, ¬ R b a → R b c → R a c) : ∀ {k : Nat}, k ≤ ps.length → (cmL ps k).Pairwise R
  | 0, _ => List.Pairwise.nil
  | k + 1, hk => by
    have ih := cmL_pair hs tot tr (k := k) (by omega)
    rw [cmL]
    split
    · exact ih
    · rename_i hne
      rw [List.pairwise_append]
      refine ⟨ih, List.pairwise_singleton _ _, fun a ha b hb => ?_⟩
      rw [List.mem_singleton] at hb
      subst hb
      obtain ⟨i, hi, rfl⟩ := cmL_mem.1 ha
      have h1 : R (ps.getD (k - 1) (0, 0)) (ps.getD k (0, 0)) := tot _ _ (pw_at hs (by omega) (by omega)) fun e => hne ⟨by omega, e.symm⟩
      by_cases he : i = k - 1
      · rw [he]; exact h1
      · exact tr _ _ _ (pw_at hs (by omega) (by omega)) h1
theorem cmL_set {ps qs : List (Int × Int)} (hp : qs.Perm ps) (hs : qs.Pairwise fun a b => ltOf ordJ b a = false) : cmL qs qs.length = setL ps := by
  refine setL_unique ?_ fun d => ?_
  · refine cmL_pair (R := fun a b => ordJ a b < 0) (hs.imp fun {a b} h => ?_) (fun a b h1 h2 => ordJ_tot h1 h2) (fun a b c h1 h2 => ?_) (Nat.le_refl _)
    · unfold ltOf at h
      exact of_decide_eq_false h
    · by_cases e : a = b
      · rw [e]; exact h2
      · exact ordJ_trans (ordJ_tot h1 e) h2
  · rw [cmL_mem, ← hp.mem_iff]
    constructor
    · rintro ⟨i, hi, rfl⟩
      exact getD_mem hi
    · intro h
      obtain ⟨i, hi, e⟩ := List.getElem_of_mem h
      exact ⟨i, hi, by rw [List.getD_eq_getElem?_getD, List.getElem?_eq_getElem hi]; exact e⟩
/-- All sums of two lists. -/
def sumP (a b : List (Int × Int)) : List (Int × Int) := a.flatMap fun o => b.map fun q => (o.1 + q.1, o.2 + q.2)
def sumL (a b : List (Int × Int)) : List (Int × Int) := setL (sumP a b)
theorem sumP_mem {a b : List (Int × Int)} {d : Int × Int} : d ∈ sumP a b ↔ ∃ o, o ∈ a ∧ ∃ q, q ∈ b ∧ (o.1 + q.1, o.2 + q.2) = d := by
  unfold sumP
  rw [List.mem_flatMap]
  simp only [List.mem_map]
theorem sumP_len (b : List (Int × Int)) : ∀ a : List (Int × Int), (sumP a b).length = a.length * b.length
  | [] => by simp [sumP]
  | o :: a => by
    have := sumP_len b a
    unfold sumP at this ⊢
    rw [List.flatMap_cons, List.length_append, List.length_map, this, List.length_cons, Nat.add_mul, Nat.one_mul, Nat.add_comm]
theorem sumP_take {a b : List (Int × Int)} {i : Nat} (hi : i < a.length) : sumP (a.take (i + 1)) b = sumP (a.take i) b ++ b.map fun q => ((a.getD i (0, 0)).1 + q.1, (a.getD i (0, 0)).2 + q.2) := by
  unfold sumP
  rw [List.take_succ_eq_append_getElem hi, List.flatMap_append, List.getD_eq_getElem?_getD, List.getElem?_eq_getElem hi]
  simp
theorem mapT_take {α β : Type} (f : α → β) (d : α) {b : List α} {j : Nat} (hj : j < b.length) : (b.take (j + 1)).map f = (b.take j).map f ++ [f (b.getD j d)] := by
  rw [List.take_succ_eq_append_getElem hj, List.map_append, List.getD_eq_getElem?_getD, List.getElem?_eq_getElem hj]
  rfl
/-- An element turned about. -/
def negP (ps : List (Int × Int)) : List (Int × Int) := ps.map fun o => (-o.1, -o.2)
def mirL (ps : List (Int × Int)) : List (Int × Int) := setL (negP ps)
theorem negP_mem {ps : List (Int × Int)} {d : Int × Int} : d ∈ negP ps ↔ (-d.1, -d.2) ∈ ps := by
  unfold negP
  rw [List.mem_map]
  constructor
  · rintro ⟨o, ho, rfl⟩
    simpa using ho
  · intro h
    exact ⟨_, h, by simp⟩
theorem mirL_mem {ps : List (Int × Int)} {d : Int × Int} : d ∈ mirL ps ↔ (-d.1, -d.2) ∈ ps := by unfold mirL; rw [setL_iff, negP_mem]
theorem mir_mir {ps : List (Int × Int)} (h : Incr ps) : mirL (mirL ps) = ps := by
  rw [← setL_self h]
  refine setL_unique (setL_incr _) fun d => ?_
  rw [mirL_mem, mirL_mem, setL_self h]
  simp
theorem mirL_len {ps : List (Int × Int)} (h : Incr ps) : (mirL ps).length = ps.length := by
  have h1 : (mirL ps).length ≤ ps.length := by have := setL_len (negP ps); simpa [negP, mirL] using this
  have h2 : (mirL (mirL ps)).length ≤ (mirL ps).length := by have := setL_len (negP (mirL ps)); simpa [negP, mirL] using this
  rw [mir_mir h] at h2
  omega
theorem elemOk_incr {os : List (Int × Int)} (h : elemOk os = true) : Incr os := by
  have h1 : ∀ i, i + 1 < os.length → ordJ (os.getD i (0, 0)) (os.getD (i + 1) (0, 0)) < 0 := fun i hi => by
    unfold elemOk at h
    rw [Bool.and_eq_true, elemOk_all] at h
    have h2 := h.1 (i + 1) hi
    unfold elemAt at h2
    rw [Bool.and_eq_true, Bool.or_eq_true, decide_eq_true_iff] at h2
    rcases h2.2 with h3 | h3
    · omega
    · exact bef_ord.1 h3
  have h2 : ∀ i d, i + (d + 1) < os.length → ordJ (os.getD i (0, 0)) (os.getD (i + (d + 1)) (0, 0)) < 0 := fun i d => by
    induction d with
    | zero => exact h1 i
    | succ d ih => exact fun hd => ordJ_trans (ih (by omega)) (h1 (i + (d + 1)) hd)
  unfold Incr
  rw [List.pairwise_iff_getElem]
  intro i j hi hj hij
  have h3 := h2 i (j - i - 1) (by omega)
  rw [show i + (j - i - 1 + 1) = j by omega, List.getD_eq_getElem?_getD, List.getD_eq_getElem?_getD, List.getElem?_eq_getElem hi, List.getElem?_eq_getElem hj] at h3
  exact h3
theorem elemOk_off {os : List (Int × Int)} (h : elemOk os = true) {o : Int × Int} (ho : o ∈ os) : offOk o = true := by
  obtain ⟨i, hi, rfl⟩ := List.getElem_of_mem ho
  unfold elemOk at h
  rw [Bool.and_eq_true, elemOk_all] at h
  have h2 := h.1 i hi
  unfold elemAt at h2
  rw [Bool.and_eq_true, List.getD_eq_getElem?_getD, List.getElem?_eq_getElem hi] at h2
  exact h2.1
theorem offOk_iff {o : Int × Int} : offOk o = true ↔ (-4 ≤ o.1 ∧ o.1 ≤ 4) ∧ (-4 ≤ o.2 ∧ o.2 ≤ 4) := by
  unfold offOk
  rw [Bool.and_eq_true, inB_true, inB_true]
theorem set_ok {ps : List (Int × Int)} (h : ∀ d, d ∈ ps → offOk d = true) (h1 : ps ≠ []) (h2 : ps.length ≤ 50) : elemOk (setL ps) = true := by
  have h3 := setL_len ps
  refine Offs.ok ⟨setL_sorted ps, fun x hx => h x ((setL_iff ps).1 hx)⟩ ?_ (by omega)
  cases ps with
  | nil => exact absurd rfl h1
  | cons p ps =>
    have : p ∈ setL (p :: ps) := (setL_iff _).2 (List.mem_cons_self ..)
    exact List.length_pos_of_mem this
theorem mir_ok {os : List (Int × Int)} (h : elemOk os = true) : elemOk (mirL os) = true := by
  obtain ⟨e1, e2, -⟩ := elemOk_spec h
  refine set_ok (fun d hd => ?_) (fun e => ?_) (by simp [negP]; omega)
  · have := offOk_iff.1 (elemOk_off h (negP_mem.1 hd))
    exact offOk_iff.2 (by omega)
  · have h0 : (negP os).length = 0 := by rw [e]; rfl
    unfold negP at h0
    rw [List.length_map] at h0
    omega
theorem sum_ok {a b : List (Int × Int)} (ha : elemOk a = true) (hb : elemOk b = true) (ha2 : ∀ x, x ∈ a → -2 ≤ x.1 ∧ x.1 ≤ 2 ∧ -2 ≤ x.2 ∧ x.2 ≤ 2) (hb2 : ∀ x, x ∈ b → -2 ≤ x.1 ∧ x.1 ≤ 2 ∧ -2 ≤ x.2 ∧ x.2 ≤ 2) (ha4 : a.length ≤ 4) (hb4 : b.length ≤ 4) : elemOk (sumL a b) = true := by
  obtain ⟨e1, -, -⟩ := elemOk_spec ha
  obtain ⟨f1, -, -⟩ := elemOk_spec hb
  have hl := sumP_len b a
  have h16 : a.length * b.length ≤ 4 * 4 := Nat.mul_le_mul ha4 hb4
  have h1 : 1 * 1 ≤ a.length * b.length := Nat.mul_le_mul e1 f1
  refine set_ok (fun d hd => ?_) (fun e => ?_) (by omega)
  · obtain ⟨o, ho, q, hq, rfl⟩ := sumP_mem.1 hd
    have h2 := ha2 o ho
    have h3 := hb2 q hq
    exact offOk_iff.2 (by simp only; omega)
  · rw [e] at hl
    simp at hl
    omega
end Go.Proofs.Ytelaoimcaidoiaa
