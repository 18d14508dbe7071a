/- FnReached, plain: what the law counts of the parts. -/
import Derived.Test.YtpdmfnndegcjjaaRdQ
import Derived.Test.YtpdmfnndegcjjaaJoinF
namespace Go.Proofs.Ytpdmfnndegcjjaa
open Go Go.RowKit
/-- One of the first k pixels has the number v, and p. -/
def anyV (f : Nat → Nat) (p : Nat → Bool) (k v : Nat) : Bool := (List.range k).any fun i => decide (f i = v) && p i
theorem anyV_zero (f : Nat → Nat) (p : Nat → Bool) (v : Nat) : anyV f p 0 v = false := rfl
theorem anyV_succ (f : Nat → Nat) (p : Nat → Bool) (k v : Nat) : anyV f p (k + 1) v = (anyV f p k v || (decide (f k = v) && p k)) := by
  unfold anyV
  rw [List.range_succ, List.any_append]
  simp
theorem anyV_at (f : Nat → Nat) (p : Nat → Bool) (k : Nat) : anyV f p (k + 1) (f k) = (anyV f p k (f k) || p k) := by rw [anyV_succ]; simp
theorem anyV_other (f : Nat → Nat) (p : Nat → Bool) {k v : Nat} (h : v ≠ f k) : anyV f p (k + 1) v = anyV f p k v := by rw [anyV_succ, decide_eq_false (fun e => h e.symm)]; simp
theorem anyV_true {f : Nat → Nat} {p : Nat → Bool} {k v : Nat} : anyV f p k v = true ↔ ∃ i, i < k ∧ f i = v ∧ p i = true := by
  unfold anyV
  simp only [List.any_eq_true, List.mem_range, Bool.and_eq_true, decide_eq_true_eq]
def stI (a b : Bool) : Int := (if a then 1 else 0) + (if b then 2 else 0)
theorem stI_one (a b : Bool) : bits .or .i64 (stI a b) 1 = stI true b := by cases a <;> cases b <;> decide
theorem stI_two (a b : Bool) : bits .or .i64 (stI a b) 2 = stI a true := by cases a <;> cases b <;> decide
theorem stI_is3 (a b : Bool) : (stI a b == 3) = (a && b) := by cases a <;> cases b <;> decide
theorem stI_is1 (a b : Bool) : (stI a b == 1) = (a && !b) := by cases a <;> cases b <;> decide
/-- The numbers' states behind k pixels. -/
def StL (n : Nat) (f : Nat → Nat) (p : Nat → Bool) (k : Nat) (l : List Int) : Prop := l.length = n ∧ ∀ v, v < n → l.getD v 0 = stI (anyV f p k v) (anyV f (fun i => !p i) k v)
theorem StL.start (n : Nat) (f : Nat → Nat) (p : Nat → Bool) : StL n f p 0 (List.replicate n 0) := ⟨by simp, fun v hv => by rw [List.getD_eq_getElem?_getD, List.getElem?_replicate, if_pos hv]; rfl⟩
theorem StL.yes {n : Nat} {f : Nat → Nat} {p : Nat → Bool} {k : Nat} {l : List Int} (h : StL n f p k l) (_hf : f k < n) (hp : p k = true) : StL n f p (k + 1) (l.set (f k) (bits .or .i64 (l.getD (f k) 0) 1)) := by
  refine ⟨by rw [List.length_set, h.1], fun v hv => ?_⟩
  by_cases e : v = f k
  · subst e
    rw [List.getD_eq_getElem?_getD, List.getElem?_set_self (by rw [h.1]; exact hv), Option.getD_some, h.2 _ hv, stI_one, anyV_at, anyV_at, hp]
    simp
  · rw [List.getD_eq_getElem?_getD, List.getElem?_set_ne (fun h => e h.symm), ← List.getD_eq_getElem?_getD, h.2 v hv, anyV_other _ _ e, anyV_other _ _ e]
theorem StL.no {n : Nat} {f : Nat → Nat} {p : Nat → Bool} {k : Nat} {l : List Int} (h : StL n f p k l) (_hf : f k < n) (hp : p k = false) : StL n f p (k + 1) (l.set (f k) (bits .or .i64 (l.getD (f k) 0) 2)) := by
  refine ⟨by rw [List.length_set, h.1], fun v hv => ?_⟩
  by_cases e : v = f k
  · subst e
    rw [List.getD_eq_getElem?_getD, List.getElem?_set_self (by rw [h.1]; exact hv), Option.getD_some, h.2 _ hv, stI_two, anyV_at, anyV_at, hp]
    simp
  · rw [List.getD_eq_getElem?_getD, List.getElem?_set_ne (fun h => e h.symm), ← List.getD_eq_getElem?_getD, h.2 v hv, anyV_other _ _ e, anyV_other _ _ e]
/-- Which numbers are marked. -/
def MkL (n : Nat) (f : Nat → Nat) (p : Nat → Bool) (k : Nat) (l : List Bool) : Prop := l.length = n ∧ ∀ v, v < n → l.getD v false = anyV f p k v
theorem MkL.start (n : Nat) (f : Nat → Nat) (p : Nat → Bool) : MkL n f p 0 (List.replicate n false) := ⟨by simp, fun v hv => by rw [List.getD_eq_getElem?_getD, List.getElem?_replicate, if_pos hv]; rfl⟩
theorem MkL.step {n : Nat} {f : Nat → Nat} {p : Nat → Bool} {k : Nat} {l : List Bool} (h : MkL n f p k l) (_hf : f k < n) : MkL n f p (k + 1) (l.set (f k) (l.getD (f k) false || p k)) := by
  refine ⟨by rw [List.length_set, h.1], fun v hv => ?_⟩
  by_cases e : v = f k
  · subst e
    rw [List.getD_eq_getElem?_getD, List.getElem?_set_self (by rw [h.1]; exact hv), Option.getD_some, h.2 _ hv, anyV_at]
  · rw [List.getD_eq_getElem?_getD, List.getElem?_set_ne (fun h => e h.symm), ← List.getD_eq_getElem?_getD, h.2 v hv, anyV_other _ _ e]
theorem insB_all {l l' : List Bool} (h : ∀ i, i < l.length → l.getD i false = true → l'.getD i false = true) : insB l l' = true := by
  unfold insB
  rw [List.all_eq_true]
  intro i hi
  have hi := List.mem_range.1 hi
  cases e : l.getD i false
  · rfl
  · rw [h i hi e]; rfl
theorem insB_mkl {W H : Nat} {g : Nat → Nat → Bool} {l : List Bool} (h : ∀ x y, x < W → y < H → g x y = true → l.getD (y * W + x) false = true) : insB (mkl W H g) l = true := by
  refine insB_all fun i hi hg => ?_
  rw [mkl_len] at hi
  have hW : 0 < W := by
    rcases Nat.eq_zero_or_pos W with e | e
    · rw [e] at hi; omega
    · exact e
  have e := Nat.div_add_mod' i W
  rw [← e, mkl_at _ _ _ _ _ (Nat.mod_lt _ hW) ((Nat.div_lt_iff_lt_mul hW).2 hi)] at hg
  rw [← e]
  exact h _ _ (Nat.mod_lt _ hW) ((Nat.div_lt_iff_lt_mul hW).2 hi) hg
section
variable {W H : Nat} {ss tt : List ByteArray} {eight : Bool} {g : Nat → Nat → Bool} {F : Int × Int → Nat} {n : Nat}
/-- What is reconstructed and the parts of the mask. -/
structure RchOk (W H : Nat) (L T : List Bool) (eight : Bool) (g : Nat → Nat → Bool) (F : Int × Int → Nat) (n : Nat) : Prop where
  sub : insB (mkl W H g) L = true
  both : insB (mkl W H fun x y => T.getD (y * W + x) false && L.getD (y * W + x) false) (mkl W H g) = true
  few : ∀ q, F q ≤ n
  mem : ∀ x y : Nat, x < W → y < H → decide (0 < F ((x : Int), (y : Int))) = L.getD (y * W + x) false
  done : ∀ v, 0 < v → (anyV (fun i => F (((i % W : Nat) : Int), ((i / W : Nat) : Int))) (fun i => g (i % W) (i / W)) (H * W) v && anyV (fun i => F (((i % W : Nat) : Int), ((i / W : Nat) : Int))) (fun i => !g (i % W) (i / W)) (H * W) v) = false ∧
    (anyV (fun i => F (((i % W : Nat) : Int), ((i / W : Nat) : Int))) (fun i => g (i % W) (i / W)) (H * W) v && !anyV (fun i => F (((i % W : Nat) : Int), ((i / W : Nat) : Int))) (fun i => !g (i % W) (i / W)) (H * W) v) =
      anyV (fun i => F (((i % W : Nat) : Int), ((i / W : Nat) : Int))) (fun i => T.getD i false && L.getD i false) (H * W) v
theorem rchOk {L T : List Bool} (hW : 1 ≤ W) (hg : ∀ x y : Nat, x < W → y < H → (g x y = true ↔ Rch (pxP W H L) (nbA eight) (spotsTo W T (H * W)) ((x : Int), (y : Int))))
    (hF : LabK (pxP W H L) (nbA eight) (spotsTo W L (H * W)) (spotsTo W L (H * W)).length F n) : RchOk W H L T eight g F n := by
  have at_ : ∀ {l : List Bool} {x y : Nat}, x < W → y < H → pxP W H l ((x : Int), (y : Int)) = l.getD (y * W + x) false := fun hx hy => pxl_at _ _ _ _ _ hx hy
  have parts : ∀ {i : Nat}, i < H * W → i % W < W ∧ i / W < H ∧ i / W * W + i % W = i := fun {i} hi => ⟨Nat.mod_lt _ (by omega), (Nat.div_lt_iff_lt_mul (by omega)).2 hi, Nat.div_add_mod' i W⟩
  have hmem := LabK.mem hF (fun q hq => spotsTo_mem.2 hq)
  refine ⟨insB_mkl fun x y hx hy h => ?_, insB_mkl fun x y hx hy h => ?_, hF.few.2, fun x y hx hy => ?_, fun v hv => ?_⟩
  · have := ((hg x y hx hy).1 h).right
    rwa [at_ hx hy] at this
  · rw [mkl_at _ _ _ _ _ hx hy]
    simp only [Bool.and_eq_true] at h
    exact (hg x y hx hy).2 (.start (spotsTo_mem.2 (by rw [at_ hx hy]; exact h.1)) (by rw [at_ hx hy]; exact h.2))
  · rw [Bool.eq_iff_iff, decide_eq_true_iff, hmem, at_ hx hy]
  · have hAB : ∀ i j, i < H * W → j < H * W → F (((i % W : Nat) : Int), ((i / W : Nat) : Int)) = v → F (((j % W : Nat) : Int), ((j / W : Nat) : Int)) = v → g (i % W) (i / W) = true → g (j % W) (j / W) = true := by
      intro i j hi hj e1 e2 h1
      obtain ⟨a1, a2, -⟩ := parts hi
      obtain ⟨b1, b2, -⟩ := parts hj
      obtain ⟨s, s1, s2⟩ := LabK.same hF _ _ (by rw [e1]; exact hv) (e1.trans e2.symm)
      exact (hg _ _ b1 b2).2 (Rch.trans1 (Rch.trans1 ((hg _ _ a1 a2).1 h1) (Rch.symm1 (nbA_symm eight) s1)) s2)
    have hno : (anyV (fun i => F (((i % W : Nat) : Int), ((i / W : Nat) : Int))) (fun i => g (i % W) (i / W)) (H * W) v && anyV (fun i => F (((i % W : Nat) : Int), ((i / W : Nat) : Int))) (fun i => !g (i % W) (i / W)) (H * W) v) = false := by
      rw [Bool.eq_false_iff]
      intro h
      rw [Bool.and_eq_true, anyV_true, anyV_true] at h
      obtain ⟨⟨i, hi, e1, h1⟩, j, hj, e2, h2⟩ := h
      have := hAB i j hi hj e1 e2 h1
      rw [this] at h2
      cases h2
    have hC : anyV (fun i => F (((i % W : Nat) : Int), ((i / W : Nat) : Int))) (fun i => T.getD i false && L.getD i false) (H * W) v = anyV (fun i => F (((i % W : Nat) : Int), ((i / W : Nat) : Int))) (fun i => g (i % W) (i / W)) (H * W) v := by
      rw [Bool.eq_iff_iff, anyV_true, anyV_true]
      constructor
      · rintro ⟨i, hi, e1, h1⟩
        obtain ⟨a1, a2, a3⟩ := parts hi
        rw [Bool.and_eq_true] at h1
        exact ⟨i, hi, e1, (hg _ _ a1 a2).2 (.start (spotsTo_mem.2 (by rw [at_ a1 a2, a3]; exact h1.1)) (by rw [at_ a1 a2, a3]; exact h1.2))⟩
      · rintro ⟨i, hi, e1, h1⟩
        obtain ⟨a1, a2, -⟩ := parts hi
        obtain ⟨s, s1, s2, s3⟩ := LabK.reach (nbA_symm eight) hF ((hg _ _ a1 a2).1 h1)
        have s1 := spotsTo_mem.1 s1
        obtain ⟨x, y, rfl, hx, hy⟩ := pxP_nat s1
        rw [at_ hx hy] at s1 s2
        have em : (y * W + x) % W = x := by rw [Nat.mul_comm, Nat.mul_add_mod, Nat.mod_eq_of_lt hx]
        have ed : (y * W + x) / W = y := by rw [Nat.mul_comm, Nat.mul_add_div (by omega), Nat.div_eq_of_lt hx]; omega
        refine ⟨y * W + x, ?_, ?_, ?_⟩
        · have := Nat.mul_le_mul_right W hy
          rw [Nat.succ_mul] at this
          omega
        · rw [em, ed, s3]
          exact e1
        · rw [s1, s2]; rfl
    refine ⟨hno, ?_⟩
    rw [hC]
    revert hno
    cases anyV (fun i => F (((i % W : Nat) : Int), ((i / W : Nat) : Int))) (fun i => g (i % W) (i / W)) (H * W) v
    · intro _; rfl
    · intro h
      rw [Bool.true_and] at h
      rw [h]
      rfl
end
end Go.Proofs.Ytpdmfnndegcjjaa
