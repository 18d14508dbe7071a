/- FnTrees, plain: leaves counted pixel by pixel. -/
import Derived.Test.YtkpgelhmeokemaaTurF
import Derived.Test.YtkpgelhmeokemaaTreeG
namespace Go.Proofs.Ytkpgelhmeokemaa
open Go Go.RowKit
/-- A list of numbers by what it shows. -/
def PtI (m : Nat) (l : List Int) (C : Nat → Nat → Nat) : Prop := l.length = m * m ∧ ∀ i j, i < m → j < m → l.getD (j * m + i) 0 = (C i j : Int)
theorem PtI.congr {m : Nat} {l : List Int} {C D : Nat → Nat → Nat} (h : PtI m l C) (e : ∀ i j, i < m → j < m → C i j = D i j) : PtI m l D := ⟨h.1, fun i j hi hj => by rw [h.2 i j hi hj, e i j hi hj]⟩
theorem PtI.inc {m : Nat} {l : List Int} {C : Nat → Nat → Nat} (h : PtI m l C) {i0 j0 : Nat} (hi : i0 < m) (hj : j0 < m) :
    PtI m (l.set (j0 * m + i0) ((C i0 j0 : Int) + 1)) (fun i j => C i j + if i = i0 ∧ j = j0 then 1 else 0) := by
  refine ⟨by rw [List.length_set, h.1], fun i j hi' hj' => ?_⟩
  show _ = ((C i j + if i = i0 ∧ j = j0 then 1 else 0 : Nat) : Int)
  rw [List.getD_eq_getElem?_getD, List.getElem?_set]
  by_cases e : j0 * m + i0 = j * m + i
  · obtain ⟨rfl, rfl⟩ := idx_inj hi hi' e
    rw [if_pos rfl, if_pos (by rw [h.1]; exact idx2 hi hj), if_pos ⟨rfl, rfl⟩]
    rfl
  · rw [if_neg e, ← List.getD_eq_getElem?_getD, h.2 i j hi' hj', if_neg]
    · rfl
    · rintro ⟨rfl, rfl⟩
      exact e rfl
theorem ptI_zero (m : Nat) : PtI m (List.replicate (m * m) 0) (fun _ _ => 0) := ⟨List.length_replicate .., fun i j hi hj => by
  rw [List.getD_eq_getElem?_getD, List.getElem?_replicate, if_pos (idx2 hi hj)]; rfl⟩
/-- The counts with a part of a leaf. -/
def pcv (f : Lf) (a b : Nat) (C : Nat → Nat → Nat) (i j : Nat) : Nat := C i j + b2n (sqB f.x f.y a b f.m i j)
theorem pcv_next {f : Lf} {a b : Nat} {C : Nat → Nat → Nat} (i j : Nat) : pcv f (a + 1) b C i j = pcv f a b C i j + if i = f.x + a ∧ j = f.y + b then 1 else 0 := by
  unfold pcv sqB b2n
  simp only [Bool.or_eq_true, decide_eq_true_eq]
  repeat' split
  all_goals omega
theorem pcv_row {f : Lf} {b : Nat} {C : Nat → Nat → Nat} (i j : Nat) : pcv f f.m b C i j = pcv f 0 (b + 1) C i j := by
  unfold pcv sqB b2n
  simp only [Bool.or_eq_true, decide_eq_true_eq]
  repeat' split
  all_goals omega
theorem pcv_zero {f : Lf} {C : Nat → Nat → Nat} (i j : Nat) : pcv f 0 0 C i j = C i j := by
  unfold pcv sqB b2n
  simp only [Bool.or_eq_true, decide_eq_true_eq]
  repeat' split
  all_goals omega
theorem pcv_all {f : Lf} {C : Nat → Nat → Nat} (i j : Nat) : pcv f 0 f.m C i j = C i j + b2n (inSq f.m f.x f.y i j) := by
  unfold pcv sqB b2n inSq
  simp only [Bool.or_eq_true, decide_eq_true_eq]
  repeat' split
  all_goals omega
theorem pcv_le {f : Lf} {a b : Nat} {C : Nat → Nat → Nat} (i j : Nat) : pcv f a b C i j ≤ C i j + 1 := by
  unfold pcv b2n
  split <;> omega
theorem cvr_take {ls : List Lf} {k : Nat} {f : Lf} (h : ls[k]? = some f) (i j : Nat) : cvr (ls.take (k + 1)) i j = cvr (ls.take k) i j + b2n (inSq f.m f.x f.y i j) := by
  rw [List.take_add_one, h, cvr_app]
  congr 1
  show (List.filter _ [f]).length = _
  cases e : inSq f.m f.x f.y i j <;> simp [e, b2n]
theorem cvr_le (ls : List Lf) (k i j : Nat) : cvr (ls.take k) i j ≤ cvr ls i j := by
  have h := cvr_app (ls.take k) (ls.drop k) i j
  rw [List.take_append_drop] at h
  omega
theorem arL_take {ls : List Lf} {k : Nat} {f : Lf} (h : ls[k]? = some f) : arL (ls.take (k + 1)) = arL (ls.take k) + if f.b then f.m * f.m else 0 := by
  rw [List.take_add_one, h, arL_app]
  rfl
theorem arL_le (ls : List Lf) (k : Nat) : arL (ls.take k) ≤ arL ls := by
  have h := arL_app (ls.take k) (ls.drop k)
  rw [List.take_append_drop] at h
  omega
theorem area_eq (m : Nat) (g : Nat → Nat → Bool) : (spotsTo m (mkl m m g) (m * m)).length = sqC g m 0 0 := by
  have h := spots_sum m (mkl m m g) (fun _ => 1) (m * m)
  rw [sumN_rows] at h
  have e : ((spotsTo m (mkl m m g) (m * m)).map fun _ => 1).sum = (spotsTo m (mkl m m g) (m * m)).length := by
    induction spotsTo m (mkl m m g) (m * m) with
    | nil => rfl
    | cons x l ih => rw [List.map_cons, List.sum_cons, ih, List.length_cons]; omega
  rw [← e, h]
  refine sumN_congr m fun j hj => sumN_congr m fun i hi => ?_
  rw [mkl_at _ _ _ _ _ hi hj, Nat.zero_add, Nat.zero_add]
  rfl
theorem sumN_le {f : Nat → Nat} {c : Nat} : ∀ n, (∀ i, i < n → f i ≤ c) → sumN f n ≤ n * c
  | 0, _ => by simp [sumN]
  | n + 1, h => by
    have h1 := sumN_le n (fun i hi => h i (by omega))
    have h2 := h n (by omega)
    show sumN f n + f n ≤ _
    rw [Nat.succ_mul]
    omega
theorem sqC_le (g : Nat → Nat → Bool) (m x y : Nat) : sqC g m x y ≤ m * m := sumN_le m fun j _ => by
  have h := sumN_le (f := fun i => b2n (g (x + i) (y + j))) (c := 1) m (fun i _ => by unfold b2n; split <;> omega)
  omega
/-- What the law asks of the leaves of a picture. -/
structure LvOk (m : Nat) (g : Nat → Nat → Bool) (ls : List Lf) : Prop where
  ins : ∀ f, f ∈ ls → 1 ≤ f.m ∧ f.x + f.m ≤ m ∧ f.y + f.m ≤ m
  col : ∀ f, f ∈ ls → ∀ i j, f.x ≤ i → i < f.x + f.m → f.y ≤ j → j < f.y + f.m → g i j = f.b
  one : ∀ i j, i < m → j < m → cvr ls i j = 1
  area : arL ls = sqC g m 0 0
  quad : ∀ i, ¬ Quad ls i
  few : 1 ≤ ls.length ∧ ls.length ≤ 256
theorem lvOk {n m : Nat} (hm : m = 2 ^ n) (hn : n ≤ 4) (g : Nat → Nat → Bool) : LvOk m g ((qtr g n 0 0).lvs n 0 0 ⟨#[]⟩) := by
  have hf := qtr_fits g n 0 0
  have hl := lvs_len (qtr g n 0 0) n 0 0 ⟨#[]⟩ hf
  refine ⟨fun f hm' => ?_, fun f hm' i j h1 h2 h3 h4 => ?_, fun i j hi hj => ?_, ?_, fun i => noQuad _ n 0 0 _ i hf (qtr_red _ _ _ _) (Nat.dvd_zero _) (Nat.dvd_zero _), hl.1, Nat.le_trans hl.2 (by match n, hn with | 0, _ => decide | 1, _ => decide | 2, _ => decide | 3, _ => decide | 4, _ => decide)⟩
  · obtain ⟨k, -, hk⟩ := lvs_pow _ n 0 0 _ hf f hm'
    have h := lvs_in _ n 0 0 _ hf f hm'
    have hp := Nat.two_pow_pos k
    omega
  · have h := lvs_in _ n 0 0 _ hf f hm'
    rw [← qtr_at (n := n) g (by omega) (by omega)]
    exact lvs_col _ n 0 0 _ i j hf f hm' (inSq_yes ⟨h1, h2, h3, h4⟩)
  · rw [cvr_lvs _ n 0 0 _ i j hf, inSq_yes (by omega)]
    rfl
  · rw [arL_lvs _ n 0 0 _ hf, hm]
    exact sqC_congr fun i j _ h2 _ h4 => qtr_at g (by omega) (by omega)
/-- The four leaves from one on: which of their conditions fails first. -/
theorem quad_fails {ls : List Lf} {k : Nat} {f f1 f2 f3 : Lf} (hq : ¬ Quad ls k) (h0 : ls[k]? = some f) (h1 : ls[k + 1]? = some f1) (h2 : ls[k + 2]? = some f2) (h3 : ls[k + 3]? = some f3)
    (e1 : f1.m = f.m) (e2 : f2.m = f.m) (e3 : f3.m = f.m) (e4 : f.x % (2 * f.m) = 0) (e5 : f.y % (2 * f.m) = 0) (e6 : f1.b = f.b) (e7 : f2.b = f.b) : f3.b ≠ f.b := fun e8 =>
  hq ⟨f, f1, f2, f3, h0, h1, h2, h3, e1, e2, e3, ⟨e4, e5⟩, e6, e7, e8⟩
end Go.Proofs.Ytkpgelhmeokemaa
