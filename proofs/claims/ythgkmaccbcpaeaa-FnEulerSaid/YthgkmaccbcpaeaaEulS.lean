/- FnEuler, plain: the formula, of a picture's list; areas and their sums. -/
import Derived.Test.YthgkmaccbcpaeaaEulR
import Derived.Test.YthgkmaccbcpaeaaLarF
namespace Go.Proofs.Ythgkmaccbcpaeaa
open Go Go.RowKit
def qs (g : Bool → Bool → Bool → Bool → Int) (f : Int → Int → Bool) (W H : Nat) : Int := sI (fun i => sI (fun j => g (f ((j : Int) - 1) ((i : Int) - 1)) (f (j : Int) ((i : Int) - 1)) (f ((j : Int) - 1) (i : Int)) (f (j : Int) (i : Int))) (W + 1)) (H + 1)
theorem sI_win (a b d : Nat → Int) (c : Int) : ∀ n, sI (fun i => a i - b i + c * d i) n = sI a n - sI b n + c * sI d n
  | 0 => by show (0 : Int) = 0 - 0 + c * 0; rw [Int.mul_zero]; rfl
  | n + 1 => by
    show sI (fun i => a i - b i + c * d i) n + (a n - b n + c * d n) = sI a n + a n - (sI b n + b n) + c * (sI d n + d n)
    rw [sI_win a b d c n, Int.mul_add]
    omega
theorem chi_qs (e : Bool) (W H : Nat) (l : List Bool) : chi e W H (pxP W H l) = qs one1 (pxl W H l) W H - qs three1 (pxl W H l) W H + (if e then -2 else 2) * qs diag1 (pxl W H l) W H := by
  unfold chi qs
  rw [← sI_win]
  refine sI_congr fun i _ => ?_
  rw [← sI_win]
  rfl
theorem lab_parts {W H : Nat} {l : List Bool} {eight : Bool} {F : Int × Int → Nat} {n : Nat} (h : LabK (pxP W H l) (nbA eight) (spotsTo W l (H * W)) (spotsTo W l (H * W)).length F n) : Parts (pxP W H l) (nbA eight) n :=
  LabK.parts (nbA_symm eight) (fun _ => spotsTo_mem.symm) h
theorem pxP_in {W H : Nat} {l : List Bool} (q : Int × Int) (h : pxP W H l q = true) : 0 ≤ q.1 ∧ q.1 < W ∧ 0 ≤ q.2 ∧ q.2 < H := by
  obtain ⟨x, y, rfl, hx, hy⟩ := pxP_nat h
  simp only
  omega
theorem pad_inv {W H : Nat} {l : List Bool} : pxP (W + 2) (H + 2) ((padL W H l).map (!·)) = invB W H (pxP W H l) := funext fun q => by
  obtain ⟨u, v⟩ := q
  rw [invB_at]
  by_cases hc : 0 ≤ u ∧ u ≤ W + 1 ∧ 0 ≤ v ∧ v ≤ H + 1
  · rw [decide_eq_true hc]
    obtain ⟨x, rfl⟩ : ∃ x : Nat, u = x := ⟨u.toNat, by omega⟩
    obtain ⟨y, rfl⟩ : ∃ y : Nat, v = y := ⟨v.toNat, by omega⟩
    show pxl (W + 2) (H + 2) _ (x : Int) (y : Int) = _
    unfold padL
    rw [mkl_map_not, pxl_at _ _ _ _ _ (by omega) (by omega), mkl_at _ _ _ _ _ (by omega) (by omega)]
    rfl
  · rw [decide_eq_false hc]
    cases hq : pxP (W + 2) (H + 2) ((padL W H l).map (!·)) (u, v)
    · rfl
    · have := pxP_in _ hq
      simp only at this
      omega
/-- The formula. -/
theorem eul_main {W H : Nat} {l : List Bool} {eight : Bool} {F : Int × Int → Nat} {n m : Nat} (h : LabK (pxP W H l) (nbA eight) (spotsTo W l (H * W)) (spotsTo W l (H * W)).length F n) (hm : HolN W H l eight m) :
    4 * ((n : Int) - ((m : Int) - 1)) = qs one1 (pxl W H l) W H - qs three1 (pxl W H l) W H + (if eight then -2 else 2) * qs diag1 (pxl W H l) W H := by
  obtain ⟨G, hG⟩ := hm
  have h2 := lab_parts hG
  rw [pad_inv] at h2
  rw [← chi_qs, ← euler_parts pxP_in (lab_parts h) h2]
  omega
/-! Areas. -/
theorem countP_more {α : Type} (p q r : α → Bool) (h1 : ∀ a, r a = (p a || q a)) (h2 : ∀ a, p a = true → q a = false) : ∀ L : List α, L.countP r = L.countP p + L.countP q
  | [] => rfl
  | a :: L => by
    rw [List.countP_cons, List.countP_cons, List.countP_cons, countP_more p q r h1 h2 L, h1]
    cases hp : p a
    · cases q a <;> simp <;> omega
    · rw [h2 a hp]; simp; omega
theorem cnt_sum (h : Nat → Nat) (K : Nat → Bool) (n k : Nat) : ∀ m, m ≤ n → sI (fun j => if K (j + 1) then (cntL h n k).getD j 0 else 0) m = ((List.range k).countP (fun i => decide (0 < h i ∧ h i ≤ m) && K (h i)) : Nat)
  | 0, _ => by
    rw [List.countP_eq_zero.2 fun i _ => by rw [decide_eq_false (by omega)]; simp]
    rfl
  | m + 1, hm => by
    show sI _ m + (if K (m + 1) then (cntL h n k).getD m 0 else 0) = _
    rw [cnt_sum h K n k m (by omega), cntL_at h k (by omega)]
    have h1 := countP_more (fun i => decide (0 < h i ∧ h i ≤ m) && K (h i)) (fun i => (h i == m + 1) && K (m + 1)) (fun i => decide (0 < h i ∧ h i ≤ m + 1) && K (h i)) (fun i => by
      by_cases e : h i = m + 1
      · rw [e, decide_eq_true (show 0 < m + 1 ∧ m + 1 ≤ m + 1 by omega), decide_eq_false (show ¬ (0 < m + 1 ∧ m + 1 ≤ m) by omega)]
        simp
      · rw [beq_eq_false_iff_ne.2 e, Bool.false_and, Bool.or_false]
        congr 1
        exact decide_eq_decide.2 (by omega)) (fun i hi => by
      rw [Bool.and_eq_true] at hi
      have := of_decide_eq_true hi.1
      rw [beq_eq_false_iff_ne.2 (by omega), Bool.false_and]) (List.range k)
    rw [h1]
    cases hK : K (m + 1)
    · have h2 : (List.range k).countP (fun i => (h i == m + 1) && false) = 0 := List.countP_eq_zero.2 fun i _ => by simp
      rw [h2, if_neg (by decide), Int.add_zero, Nat.add_zero]
    · have h2 : (List.range k).countP (fun i => (h i == m + 1) && true) = (List.range k).countP (fun i => h i == m + 1) := List.countP_congr fun i _ => by simp
      rw [h2, if_pos rfl]
      omega
theorem spots_count (W H : Nat) (g : Nat → Nat → Bool) : (spotsTo W (mkl W H g) (H * W)).length = (List.range (H * W)).countP fun i => g (i % W) (i / W) := by
  unfold spotsTo
  rw [List.length_map, ← List.countP_eq_length_filter]
  refine List.countP_congr fun i hi => ?_
  have hi := List.mem_range.1 hi
  have hW : 0 < W := Nat.pos_of_ne_zero fun e => by rw [e, Nat.mul_zero] at hi; omega
  have h := mkl_at W H g (i % W) (i / W) (Nat.mod_lt _ hW) (by rw [Nat.div_lt_iff_lt_mul hW]; exact hi)
  rw [show i / W * W + i % W = i by rw [Nat.mul_comm]; exact Nat.div_add_mod _ _] at h
  rw [h]
section
variable {W H : Nat} {l : List Bool} {eight : Bool} {F : Int × Int → Nat} {n : Nat}
abbrev LabW (W H : Nat) (l : List Bool) (eight : Bool) (F : Int × Int → Nat) (n : Nat) : Prop := LabK (pxP W H l) (nbA eight) (spotsTo W l (H * W)) (spotsTo W l (H * W)).length F n
/-- Those components that meet a condition have together as many pixels as the picture of them. -/
theorem kept_sum (h : LabW W H l eight F n) (K : Nat → Bool) : sI (fun j => if K (j + 1) then (areL W H F n).getD j 0 else 0) n = ((spotsTo W (mkl W H (keptG F K)) (H * W)).length : Nat) := by
  unfold areL
  rw [cnt_sum _ _ _ _ n (Nat.le_refl _), spots_count]
  congr 1
  refine List.countP_congr fun i _ => ?_
  have := h.few.2 (((i % W : Nat) : Int), ((i / W : Nat) : Int))
  unfold keptG pixN
  rw [decide_eq_decide.2 (show (0 < F (((i % W : Nat) : Int), ((i / W : Nat) : Int)) ∧ F (((i % W : Nat) : Int), ((i / W : Nat) : Int)) ≤ n) ↔ 0 < F (((i % W : Nat) : Int), ((i / W : Nat) : Int)) by omega)]
theorem all_sum (h : LabW W H l eight F n) : sI (fun j => (areL W H F n).getD j 0) n = ((spotsTo W l (H * W)).length : Nat) := by
  have h1 := cnt_sum (pixN W F) (fun _ => true) n (H * W) n (Nat.le_refl _)
  simp only [if_true, Bool.and_true] at h1
  unfold areL
  rw [h1]
  congr 1
  unfold spotsTo
  rw [List.length_map, ← List.countP_eq_length_filter]
  refine List.countP_congr fun i hi => ?_
  have hi := List.mem_range.1 hi
  have hW : 0 < W := Nat.pos_of_ne_zero fun e => by rw [e, Nat.mul_zero] at hi; omega
  have h2 := h.mem (fun q hq => spotsTo_mem.2 hq) (((i % W : Nat) : Int), ((i / W : Nat) : Int))
  have h3 := h.few.2 (((i % W : Nat) : Int), ((i / W : Nat) : Int))
  have h4 : pxP W H l (((i % W : Nat) : Int), ((i / W : Nat) : Int)) = l.getD i false := by
    show pxl W H l _ _ = _
    rw [pxl_at _ _ _ _ _ (Nat.mod_lt _ hW) (by rw [Nat.div_lt_iff_lt_mul hW]; exact hi), show i / W * W + i % W = i by rw [Nat.mul_comm]; exact Nat.div_add_mod _ _]
  rw [h4] at h2
  unfold pixN
  rw [decide_eq_true_eq, ← h2]
  omega
theorem are_pos (h : LabW W H l eight F n) {j : Nat} (hj : j < n) : 1 ≤ (areL W H F n).getD j 0 := by
  obtain ⟨q, h1, h2⟩ := LabK.sur (nbA_symm eight) (fun j hj => spotsTo_mem.1 (getD_mem hj)) h (j + 1) (by omega) (by omega)
  obtain ⟨x, y, rfl, hx, hy⟩ := pxP_nat h1
  unfold areL
  rw [cntL_at _ _ hj]
  have : 0 < (List.range (H * W)).countP fun i => pixN W F i == j + 1 := List.countP_pos_iff.2 ⟨y * W + x, List.mem_range.2 (by
    have : (y + 1) * W ≤ H * W := Nat.mul_le_mul_right W hy
    rw [Nat.add_mul, Nat.one_mul] at this
    omega), by
    unfold pixN
    rw [Nat.mul_comm y W, Nat.mul_add_mod, Nat.mod_eq_of_lt hx, Nat.mul_add_div (by omega), Nat.div_eq_of_lt hx, Nat.add_zero, h2]
    simp⟩
  omega
theorem keep_in (h : LabW W H l eight F n) (K : Nat → Bool) (x y : Nat) (hx : x < W) (hy : y < H) (hk : keptG F K x y = true) : l.getD (y * W + x) false = true := by
  unfold keptG at hk
  rw [Bool.and_eq_true] at hk
  have h1 := h.right _ (of_decide_eq_true hk.1)
  rw [← pxl_at W H l x y hx hy]
  exact h1
end
/-- The greatest of the first k. -/
def mxR (xs : List Int) : Nat → Int
  | 0 => 0
  | k + 1 => if mxR xs k < xs.getD k 0 then xs.getD k 0 else mxR xs k
theorem mxR_le {xs : List Int} {b : Int} (hb : 0 ≤ b) : ∀ {k : Nat}, (∀ j, j < k → xs.getD j 0 ≤ b) → mxR xs k ≤ b
  | 0, _ => hb
  | k + 1, h => by
    have h1 := mxR_le hb (k := k) fun j hj => h j (by omega)
    have h2 := h k (by omega)
    have e : mxR xs (k + 1) = if mxR xs k < xs.getD k 0 then xs.getD k 0 else mxR xs k := rfl
    rw [e]
    split <;> omega
theorem mxR_ge {xs : List Int} : ∀ {k j : Nat}, j < k → xs.getD j 0 ≤ mxR xs k
  | 0, j, h => by omega
  | k + 1, j, h => by
    have e : mxR xs (k + 1) = if mxR xs k < xs.getD k 0 then xs.getD k 0 else mxR xs k := rfl
    rw [e]
    by_cases e : j = k
    · subst e; split <;> omega
    · have := mxR_ge (xs := xs) (show j < k by omega)
      split <;> omega
theorem mxR_zero (xs : List Int) : ∀ k, 0 ≤ mxR xs k
  | 0 => by show (0 : Int) ≤ 0; omega
  | k + 1 => by
    have := mxR_zero xs k
    have e : mxR xs (k + 1) = if mxR xs k < xs.getD k 0 then xs.getD k 0 else mxR xs k := rfl
    rw [e]
    split <;> omega
theorem mxR_best {xs : List Int} {n b : Nat} (h : BestTo xs n b) (h0 : 0 ≤ xs.getD b 0) : mxR xs n = xs.getD b 0 := by
  have h1 := mxR_le h0 h.2.1
  have h2 := mxR_ge (xs := xs) h.1
  omega
theorem sI_pick (f : Nat → Int) (b : Nat) : ∀ n, sI (fun j => if j + 1 == b + 1 then f j else 0) n = if b < n then f b else 0
  | 0 => rfl
  | n + 1 => by
    show sI _ n + (if (n + 1 == b + 1) = true then f n else 0) = _
    rw [sI_pick f b n]
    by_cases e : n = b
    · subst e
      simp
    · rw [if_neg (show ¬ (n + 1 == b + 1) = true by simp; omega)]
      by_cases h : b < n
      · rw [if_pos h, if_pos (by omega)]; omega
      · rw [if_neg h, if_neg (by omega)]; rfl
/-- What `areK` says: the least area. -/
theorem large_count {W H : Nat} {l : List Bool} {eight : Bool} {F : Int × Int → Nat} {n b : Nat} (h : LabW W H l eight F n) (hb : BestTo (areL W H F n) n b) : ((spotsTo W (mkl W H (keptG F fun k => k == b + 1)) (H * W)).length : Int) = mxR (areL W H F n) n := by
  rw [← kept_sum h, sI_pick, if_pos hb.1, mxR_best hb]
  have := are_pos h hb.1
  omega
end Go.Proofs.Ythgkmaccbcpaeaa
