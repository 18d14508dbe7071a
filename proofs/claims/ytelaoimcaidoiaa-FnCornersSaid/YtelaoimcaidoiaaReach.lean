/- Plain: what is reached over right spots, and how a search by a queue finds it. -/
import Derived.Test.YtelaoimcaidoiaaQueue
namespace Go.Proofs.Ytelaoimcaidoiaa
open Go.RowKit
inductive Rch (R : Int × Int → Bool) (N : Int × Int → List (Int × Int)) (S : List (Int × Int)) : Int × Int → Prop
  | start {p : Int × Int} : p ∈ S → R p = true → Rch R N S p
  | step {p q : Int × Int} : Rch R N S p → q ∈ N p → R q = true → Rch R N S q
section
variable {R : Int × Int → Bool} {N N' : Int × Int → List (Int × Int)} {S ds : List (Int × Int)} {p q : Int × Int}
theorem Rch.right (h : Rch R N S p) : R p = true := by
  cases h <;> assumption
theorem Rch.congr1 (hN : ∀ p q, q ∈ N p → q ∈ N' p) (h : Rch R N S p) : Rch R N' S p := by
  induction h with
  | start h1 h2 => exact .start h1 h2
  | step _ h1 h2 ih => exact .step ih (hN _ _ h1) h2
theorem Rch.congr (hN : ∀ p q, q ∈ N p ↔ q ∈ N' p) : Rch R N S p ↔ Rch R N' S p := ⟨Rch.congr1 fun p q => (hN p q).1, Rch.congr1 fun p q => (hN p q).2⟩
/-- The starts up to number k are entered. -/
structure Bfs0 (R : Int × Int → Bool) (N : Int × Int → List (Int × Int)) (S : List (Int × Int)) (k : Nat) (ds : List (Int × Int)) : Prop where
  nodup : ds.Nodup
  snd : ∀ p, p ∈ ds → Rch R N S p
  starts : ∀ j, j < k → R (S.getD j (0, 0)) = true → S.getD j (0, 0) ∈ ds
/-- All starts are entered, of the first i all right neighbours are. -/
structure Bfs (R : Int × Int → Bool) (N : Int × Int → List (Int × Int)) (S : List (Int × Int)) (i : Nat) (ds : List (Int × Int)) : Prop where
  nodup : ds.Nodup
  snd : ∀ p, p ∈ ds → Rch R N S p
  starts : ∀ p, p ∈ S → R p = true → p ∈ ds
  done : ∀ k, k < i → ∀ q, q ∈ N (ds.getD k (0, 0)) → R q = true → q ∈ ds
  le : i ≤ ds.length
/-- .. and of number i the first j neighbours. -/
structure BfsIn (R : Int × Int → Bool) (N : Int × Int → List (Int × Int)) (S : List (Int × Int)) (i j : Nat) (p : Int × Int) (ds : List (Int × Int)) : Prop where
  b : Bfs R N S i ds
  lt : i < ds.length
  at_ : ds.getD i (0, 0) = p
  some : ∀ k, k < j → R ((N p).getD k (0, 0)) = true → (N p).getD k (0, 0) ∈ ds
theorem getD_mem {l : List (Int × Int)} {i : Nat} (h : i < l.length) : l.getD i (0, 0) ∈ l := by
  rw [List.getD_eq_getElem?_getD, List.getElem?_eq_getElem h]
  exact List.getElem_mem h
theorem mem_getD {l : List (Int × Int)} {p : Int × Int} (h : p ∈ l) : ∃ i, i < l.length ∧ l.getD i (0, 0) = p := by
  obtain ⟨i, hi, e⟩ := List.getElem_of_mem h
  exact ⟨i, hi, by rw [List.getD_eq_getElem?_getD, List.getElem?_eq_getElem hi]; exact e⟩
theorem getD_snoc {l : List (Int × Int)} {i : Nat} (h : i < l.length) : (l ++ [q]).getD i (0, 0) = l.getD i (0, 0) := by
  rw [List.getD_eq_getElem?_getD, List.getElem?_append_left h, ← List.getD_eq_getElem?_getD]
theorem nodup_snoc {l : List (Int × Int)} (h : l.Nodup) (hq : ¬ q ∈ l) : (l ++ [q]).Nodup := by
  rw [List.nodup_append]
  exact ⟨h, by simp, fun a ha b hb => by simp at hb; subst hb; rintro rfl; exact hq ha⟩
theorem Bfs0.init : Bfs0 R N S 0 [] := ⟨List.nodup_nil, by simp, fun j hj => by omega⟩
theorem Bfs0.no {k : Nat} (h : Bfs0 R N S k ds) (hr : R (S.getD k (0, 0)) = false ∨ S.getD k (0, 0) ∈ ds) : Bfs0 R N S (k + 1) ds :=
  ⟨h.nodup, h.snd, fun j hj hR => by
    by_cases e : j = k
    · subst e
      rcases hr with hr | hr
      · rw [hr] at hR; cases hR
      · exact hr
    · exact h.starts j (by omega) hR⟩
theorem Bfs0.yes {k : Nat} (h : Bfs0 R N S k ds) (hk : k < S.length) (hr : R (S.getD k (0, 0)) = true) (hm : ¬ S.getD k (0, 0) ∈ ds) : Bfs0 R N S (k + 1) (ds ++ [S.getD k (0, 0)]) :=
  ⟨nodup_snoc h.nodup hm, fun p hp => by
    rcases List.mem_append.1 hp with hp | hp
    · exact h.snd p hp
    · simp at hp; subst hp; exact .start (getD_mem hk) hr, fun j hj hR => by
    by_cases e : j = k
    · subst e; simp
    · exact List.mem_append.2 (.inl (h.starts j (by omega) hR))⟩
theorem Bfs0.done (h : Bfs0 R N S S.length ds) : Bfs R N S 0 ds :=
  ⟨h.nodup, h.snd, fun p hp hR => by
    obtain ⟨i, hi, rfl⟩ := mem_getD hp
    exact h.starts i hi hR, fun k hk => by omega, Nat.zero_le _⟩
theorem Bfs.enter {i : Nat} (h : Bfs R N S i ds) (hi : i < ds.length) : BfsIn R N S i 0 (ds.getD i (0, 0)) ds := ⟨h, hi, rfl, fun k hk => by omega⟩
theorem BfsIn.no {i j : Nat} (h : BfsIn R N S i j p ds) (hr : R ((N p).getD j (0, 0)) = false ∨ (N p).getD j (0, 0) ∈ ds) : BfsIn R N S i (j + 1) p ds :=
  ⟨h.b, h.lt, h.at_, fun k hk hR => by
    by_cases e : k = j
    · subst e
      rcases hr with hr | hr
      · rw [hr] at hR; cases hR
      · exact hr
    · exact h.some k (by omega) hR⟩
theorem BfsIn.yes {i j : Nat} (h : BfsIn R N S i j p ds) (hj : j < (N p).length) (hr : R ((N p).getD j (0, 0)) = true) (hm : ¬ (N p).getD j (0, 0) ∈ ds) : BfsIn R N S i (j + 1) p (ds ++ [(N p).getD j (0, 0)]) :=
  ⟨⟨nodup_snoc h.b.nodup hm, fun u hu => by
      rcases List.mem_append.1 hu with hu | hu
      · exact h.b.snd u hu
      · simp at hu; subst hu
        exact .step (h.b.snd p (by rw [← h.at_]; exact getD_mem h.lt)) (getD_mem hj) hr,
    fun u hu hR => List.mem_append.2 (.inl (h.b.starts u hu hR)),
    fun k hk u hu hR => by
      rw [getD_snoc (by have := h.b.le; omega)] at hu
      exact List.mem_append.2 (.inl (h.b.done k hk u hu hR)),
    by have := h.b.le; simp; omega⟩,
   by have := h.lt; simp; omega, by rw [getD_snoc h.lt]; exact h.at_, fun k hk hR => by
    by_cases e : k = j
    · subst e; simp
    · exact List.mem_append.2 (.inl (h.some k (by omega) hR))⟩
theorem BfsIn.leave {i : Nat} (h : BfsIn R N S i (N p).length p ds) : Bfs R N S (i + 1) ds :=
  ⟨h.b.nodup, h.b.snd, h.b.starts, fun k hk q hq hR => by
    by_cases e : k = i
    · subst e
      rw [h.at_] at hq
      obtain ⟨j, hj, rfl⟩ := mem_getD hq
      exact h.some j hj hR
    · exact h.b.done k (by omega) q hq hR, h.lt⟩
theorem Bfs.all (h : Bfs R N S ds.length ds) (p : Int × Int) : p ∈ ds ↔ Rch R N S p :=
  ⟨h.snd p, fun hp => by
    induction hp with
    | start h1 h2 => exact h.starts _ h1 h2
    | step _ h1 h2 ih =>
      obtain ⟨k, hk, rfl⟩ := mem_getD ih
      exact h.done k hk _ h1 h2⟩
/-- As many as there are in a list of all right ones, at most. -/
theorem Bfs.few {i : Nat} (h : Bfs R N S i ds) (L : List (Int × Int)) (hL : ∀ p, R p = true → p ∈ L) : ds.length ≤ L.length := nodup_len ds L h.nodup fun p hp => hL p (h.snd p hp).right
theorem Bfs0.few {k : Nat} (h : Bfs0 R N S k ds) (L : List (Int × Int)) (hL : ∀ p, R p = true → p ∈ L) : ds.length ≤ L.length := nodup_len ds L h.nodup fun p hp => hL p (h.snd p hp).right
end
/-- The steps to the neighbours: as the two programs list them. -/
def stepL (eight : Bool) : List (Int × Int) := [(0, -1), (-1, 0), (1, 0), (0, 1)] ++ if eight then [(-1, -1), (1, -1), (-1, 1), (1, 1)] else []
def arndL (eight : Bool) : List (Int × Int) := if eight then [(-1, -1), (0, -1), (1, -1), (-1, 0), (1, 0), (-1, 1), (0, 1), (1, 1)] else [(0, -1), (-1, 0), (1, 0), (0, 1)]
def nbS (eight : Bool) (p : Int × Int) : List (Int × Int) := (stepL eight).map fun d => (p.1 + d.1, p.2 + d.2)
def nbA (eight : Bool) (p : Int × Int) : List (Int × Int) := (arndL eight).map fun d => (p.1 + d.1, p.2 + d.2)
theorem nb_same (eight : Bool) (p q : Int × Int) : q ∈ nbS eight p ↔ q ∈ nbA eight p := by
  have h : ∀ d, d ∈ stepL eight ↔ d ∈ arndL eight := by
    intro d
    cases eight
    · rfl
    · simp only [stepL, arndL, if_true, List.cons_append, List.nil_append, List.mem_cons, List.not_mem_nil, or_false]
      constructor <;> rintro (rfl | rfl | rfl | rfl | rfl | rfl | rfl | rfl) <;> simp
  unfold nbS nbA
  simp only [List.mem_map, h]
theorem stepL_at (eight : Bool) : ∀ d, d ∈ stepL eight → -1 ≤ d.1 ∧ d.1 ≤ 1 ∧ -1 ≤ d.2 ∧ d.2 ≤ 1 := by cases eight <;> decide
theorem arndL_at (eight : Bool) : ∀ d, d ∈ arndL eight → -1 ≤ d.1 ∧ d.1 ≤ 1 ∧ -1 ≤ d.2 ∧ d.2 ≤ 1 := by cases eight <;> decide
theorem map_getD_sp (f : Int × Int → Int × Int) (l : List (Int × Int)) (i : Nat) (hi : i < l.length) : (l.map f).getD i (0, 0) = f (l.getD i (0, 0)) := by
  rw [List.getD_eq_getElem?_getD, List.getD_eq_getElem?_getD, List.getElem?_map, List.getElem?_eq_getElem hi]
  rfl
theorem nbS_len (eight : Bool) (p : Int × Int) : (nbS eight p).length = (stepL eight).length := by simp [nbS]
theorem nbA_len (eight : Bool) (p : Int × Int) : (nbA eight p).length = (arndL eight).length := by simp [nbA]
theorem nbA_near {eight : Bool} {p q : Int × Int} (h : q ∈ nbA eight p) : p.1 - 1 ≤ q.1 ∧ q.1 ≤ p.1 + 1 ∧ p.2 - 1 ≤ q.2 ∧ q.2 ≤ p.2 + 1 := by
  obtain ⟨d, hd, rfl⟩ := List.mem_map.1 h
  have := arndL_at eight d hd
  simp only
  omega
/-- All spots of a box. -/
def boxL (x0 y0 : Int) (W H : Nat) : List (Int × Int) := (List.range (H * W)).map fun k => (x0 + ((k % W : Nat) : Int), y0 + ((k / W : Nat) : Int))
theorem boxL_len (x0 y0 : Int) (W H : Nat) : (boxL x0 y0 W H).length = H * W := by simp [boxL]
theorem boxL_mem {x0 y0 : Int} {W H : Nat} {p : Int × Int} (h1 : x0 ≤ p.1) (h2 : p.1 < x0 + W) (h3 : y0 ≤ p.2) (h4 : p.2 < y0 + H) : p ∈ boxL x0 y0 W H := by
  obtain ⟨x, hx⟩ : ∃ x : Nat, p.1 = x0 + x := ⟨(p.1 - x0).toNat, by omega⟩
  obtain ⟨y, hy⟩ : ∃ y : Nat, p.2 = y0 + y := ⟨(p.2 - y0).toNat, by omega⟩
  have hxW : x < W := by omega
  have hyH : y < H := by omega
  refine List.mem_map.2 ⟨y * W + x, ?_, ?_⟩
  · rw [List.mem_range]
    have := Nat.mul_le_mul_right W (show y + 1 ≤ H by omega)
    rw [Nat.add_mul] at this
    omega
  · have e1 : (y * W + x) % W = x := by rw [Nat.mul_comm, Nat.mul_add_mod, Nat.mod_eq_of_lt hxW]
    have e2 : (y * W + x) / W = y := by rw [Nat.mul_comm, Nat.mul_add_div (by omega), Nat.div_eq_of_lt hxW]; rfl
    rw [e1, e2]
    exact Prod.ext hx.symm hy.symm
theorem mkl_set {W H : Nat} {g g' : Nat → Nat → Bool} {x y : Nat} (hx : x < W) (_ : y < H) (v : Bool) (h1 : g' x y = v) (h2 : ∀ i j, i < W → j < H → (i ≠ x ∨ j ≠ y) → g' i j = g i j) : (mkl W H g).set (y * W + x) v = mkl W H g' := by
  apply List.ext_getElem?
  intro k
  by_cases hk : k < H * W
  · have hW : 0 < W := by omega
    have hi : k % W < W := Nat.mod_lt _ hW
    have hj : k / W < H := Nat.div_lt_of_lt_mul (by rw [Nat.mul_comm]; exact hk)
    have ek : k / W * W + k % W = k := by rw [Nat.mul_comm]; exact Nat.div_add_mod k W
    have er : (mkl W H g')[k]? = some (g' (k % W) (k / W)) := by unfold mkl; rw [List.getElem?_map, List.getElem?_range hk]; rfl
    have el : (mkl W H g)[k]? = some (g (k % W) (k / W)) := by unfold mkl; rw [List.getElem?_map, List.getElem?_range hk]; rfl
    rw [er, List.getElem?_set]
    by_cases e : y * W + x = k
    · rw [if_pos e, if_pos (by rw [mkl_len, e]; exact hk)]
      have e1 : k % W = x := by rw [← e, Nat.mul_comm, Nat.mul_add_mod, Nat.mod_eq_of_lt hx]
      have e2 : k / W = y := by rw [← e, Nat.mul_comm, Nat.mul_add_div (by omega), Nat.div_eq_of_lt hx]; rfl
      rw [e1, e2, h1]
    · rw [if_neg e, el, h2 _ _ hi hj]
      by_cases e1 : k % W = x
      · right
        intro e2
        exact e (by rw [← e1, ← e2]; exact ek)
      · exact .inl e1
  · rw [List.getElem?_eq_none (by rw [List.length_set, mkl_len]; omega), List.getElem?_eq_none (by rw [mkl_len]; omega)]
theorem mkl_false (W H : Nat) : mkl W H (fun _ _ => false) = List.replicate (H * W) false := by
  unfold mkl
  apply List.ext_getElem?
  intro k
  rw [List.getElem?_map, List.getElem?_replicate]
  by_cases hk : k < H * W
  · rw [List.getElem?_range hk, if_pos hk]; rfl
  · rw [List.getElem?_eq_none (by simp; omega), if_neg hk]; rfl
/-- What a search has entered, as a picture. -/
def inL (ds : List (Int × Int)) (x y : Nat) : Bool := decide (((x : Int), (y : Int)) ∈ ds)
theorem mkl_enter {W H : Nat} {ds : List (Int × Int)} {x y : Nat} (hx : x < W) (hy : y < H) : (mkl W H (inL ds)).set (y * W + x) true = mkl W H (inL (ds ++ [((x : Int), (y : Int))])) := by
  refine mkl_set hx hy true (by simp [inL]) (fun i j _ _ h => ?_)
  unfold inL
  have : ¬ ((i : Int), (j : Int)) = ((x : Int), (y : Int)) := by
    intro e
    simp only [Prod.mk.injEq] at e
    omega
  simp [this]
end Go.Proofs.Ytelaoimcaidoiaa
