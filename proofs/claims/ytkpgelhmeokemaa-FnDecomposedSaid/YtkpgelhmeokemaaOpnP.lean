/- FnOpenings, plain: opening and closing. -/
import Derived.Test.YtkpgelhmeokemaaMor
import Derived.Test.YtkpgelhmeokemaaJoinF
import Derived.Test.YtkpgelhmeokemaaSumP
namespace Go.Proofs.Ytkpgelhmeokemaa
open Go Go.RowKit
section
variable {W H : Nat} {l l' : List Bool} {os : List (Int × Int)}
theorem pxl_mk {g : Nat → Nat → Bool} {a b : Int} : pxl W H (mkl W H g) a b = true ↔ ∃ x y : Nat, a = x ∧ b = y ∧ x < W ∧ y < H ∧ g x y = true := by
  constructor
  · intro h
    have hb : hasB W H a b = true := by
      cases hd : hasB W H a b
      · rw [pxl_out hd] at h; cases h
      · rfl
    obtain ⟨h1, h2, h3, h4⟩ := hasB_true.1 hb
    obtain ⟨x, rfl⟩ := Int.eq_ofNat_of_zero_le h1
    obtain ⟨y, rfl⟩ := Int.eq_ofNat_of_zero_le h3
    rw [pxl_at _ _ _ _ _ (by omega) (by omega), mkl_at _ _ _ _ _ (by omega) (by omega)] at h
    exact ⟨x, y, rfl, rfl, by omega, by omega, h⟩
  · rintro ⟨x, y, rfl, rfl, hx, hy, h⟩
    rw [pxl_at _ _ _ _ _ hx hy, mkl_at _ _ _ _ _ hx hy]
    exact h
theorem pxl_in {a b : Int} (h : pxl W H l a b = true) : 0 ≤ a ∧ a < W ∧ 0 ≤ b ∧ b < H := by
  cases hd : hasB W H a b
  · rw [pxl_out hd] at h; cases h
  · exact hasB_true.1 hd
theorem fitsB_true {x y : Int} : fitsB W H l os x y = true ↔ ∀ o, o ∈ os → pxl W H l (x + o.1) (y + o.2) = true := by unfold fitsB; rw [List.all_eq_true]
theorem openB_true {x y : Int} : openB W H l os x y = true ↔ ∃ o, o ∈ os ∧ ∀ q, q ∈ os → pxl W H l (x - o.1 + q.1) (y - o.2 + q.2) = true := by
  unfold openB
  rw [List.any_eq_true]
  simp only [fitsB_true]
theorem closeB_true {x y : Int} : closeB W H l os x y = true ↔ ∀ o, o ∈ os → ∃ q, q ∈ os ∧ pxl W H l (x + o.1 - q.1) (y + o.2 - q.2) = true := by
  unfold closeB someB
  rw [List.all_eq_true]
  simp only [List.any_eq_true]
theorem open_sub {x y : Int} (h : openB W H l os x y = true) : pxl W H l x y = true := by
  obtain ⟨o, ho, h⟩ := openB_true.1 h
  have := h o ho
  rwa [show x - o.1 + o.1 = x by omega, show y - o.2 + o.2 = y by omega] at this
theorem open_mono {x y : Int} (hl : ∀ a b, pxl W H l a b = true → pxl W H l' a b = true) (h : openB W H l os x y = true) : openB W H l' os x y = true := by
  obtain ⟨o, ho, h⟩ := openB_true.1 h
  exact openB_true.2 ⟨o, ho, fun q hq => hl _ _ (h q hq)⟩
theorem open_pxl {a b : Int} : pxl W H (mkl W H fun x y => openB W H l os x y) a b = true ↔ openB W H l os a b = true := by
  rw [pxl_mk]
  constructor
  · rintro ⟨x, y, rfl, rfl, -, -, h⟩; exact h
  · intro h
    obtain ⟨h1, h2, h3, h4⟩ := pxl_in (open_sub h)
    obtain ⟨x, rfl⟩ := Int.eq_ofNat_of_zero_le h1
    obtain ⟨y, rfl⟩ := Int.eq_ofNat_of_zero_le h3
    exact ⟨x, y, rfl, rfl, by omega, by omega, h⟩
/-- Opening twice. -/
theorem open_idem (x y : Int) : openB W H (mkl W H fun x y => openB W H l os x y) os x y = openB W H l os x y := by
  rw [Bool.eq_iff_iff]
  constructor
  · exact open_mono fun a b h => open_sub (open_pxl.1 h)
  · intro h
    obtain ⟨o, ho, h⟩ := openB_true.1 h
    refine openB_true.2 ⟨o, ho, fun q hq => open_pxl.2 (openB_true.2 ⟨q, hq, fun q' hq' => ?_⟩)⟩
    rw [show x - o.1 + q.1 - q.1 = x - o.1 by omega, show y - o.2 + q.2 - q.2 = y - o.2 by omega]
    exact h q' hq'
theorem close_sub {x y : Int} (h : pxl W H l x y = true) : closeB W H l os x y = true := closeB_true.2 fun o ho => ⟨o, ho, by rwa [show x + o.1 - o.1 = x by omega, show y + o.2 - o.2 = y by omega]⟩
/-- Closing twice. -/
theorem close_idem (x y : Int) : closeB W H (mkl W H fun x y => closeB W H l os x y) os x y = closeB W H l os x y := by
  rw [Bool.eq_iff_iff, closeB_true, closeB_true]
  constructor
  · intro h o ho
    obtain ⟨q, hq, h⟩ := h o ho
    obtain ⟨a, b, e1, e2, -, -, h⟩ := pxl_mk.1 h
    obtain ⟨q', hq', h⟩ := closeB_true.1 h q hq
    refine ⟨q', hq', ?_⟩
    rwa [← e1, ← e2, show x + o.1 - q.1 + q.1 - q'.1 = x + o.1 - q'.1 by omega, show y + o.2 - q.2 + q.2 - q'.2 = y + o.2 - q'.2 by omega] at h
  · intro h o ho
    obtain ⟨q, hq, h⟩ := h o ho
    refine ⟨q, hq, ?_⟩
    obtain ⟨h1, h2, h3, h4⟩ := pxl_in h
    obtain ⟨a, ha⟩ := Int.eq_ofNat_of_zero_le h1
    obtain ⟨b, hb⟩ := Int.eq_ofNat_of_zero_le h3
    refine pxl_mk.2 ⟨a, b, ha, hb, by omega, by omega, ?_⟩
    rw [ha, hb] at h
    exact close_sub h
/-- The offsets of a square. -/
def sqO (n : Nat) : List (Int × Int) := (List.range (n * n)).map fun i => (((i % n : Nat) : Int), ((i / n : Nat) : Int))
theorem sqO_mem {n : Nat} {o : Int × Int} : o ∈ sqO n ↔ 0 ≤ o.1 ∧ o.1 < n ∧ 0 ≤ o.2 ∧ o.2 < n := by
  unfold sqO
  rw [List.mem_map]
  constructor
  · rintro ⟨i, hi, rfl⟩
    have hi := List.mem_range.1 hi
    have hn : 0 < n := by
      rcases Nat.eq_zero_or_pos n with e | e
      · rw [e] at hi; omega
      · exact e
    have h1 := Nat.mod_lt i hn
    have h2 := (Nat.div_lt_iff_lt_mul hn).2 hi
    exact ⟨Int.natCast_nonneg _, Int.ofNat_lt.2 h1, Int.natCast_nonneg _, Int.ofNat_lt.2 h2⟩
  · obtain ⟨a, b⟩ := o
    rintro ⟨h1, h2, h3, h4⟩
    dsimp only at h1 h2 h3 h4
    obtain ⟨a, rfl⟩ := Int.eq_ofNat_of_zero_le h1
    obtain ⟨b, rfl⟩ := Int.eq_ofNat_of_zero_le h3
    have hn : 0 < n := by omega
    refine ⟨b * n + a, ?_, ?_⟩
    · rw [List.mem_range]
      have := Nat.mul_le_mul_right n (show b + 1 ≤ n by omega)
      rw [Nat.succ_mul] at this
      omega
    · rw [Nat.mul_comm b n, Nat.mul_add_mod, Nat.mod_eq_of_lt (by omega), Nat.mul_add_div hn, Nat.div_eq_of_lt (by omega)]
      rfl
theorem open_less {n : Nat} (hn : 1 ≤ n) {x y : Int} (h : openB W H l (sqO (n + 1)) x y = true) : openB W H l (sqO n) x y = true := by
  obtain ⟨o, ho, h⟩ := openB_true.1 h
  rw [sqO_mem] at ho
  obtain ⟨dx, hdx, e1⟩ : ∃ dx : Int, (dx = 0 ∨ dx = 1) ∧ 0 ≤ o.1 - dx ∧ o.1 - dx < n := by
    by_cases e : o.1 = n
    · exact ⟨1, .inr rfl, by omega, by omega⟩
    · exact ⟨0, .inl rfl, by omega, by omega⟩
  obtain ⟨dy, hdy, e2⟩ : ∃ dy : Int, (dy = 0 ∨ dy = 1) ∧ 0 ≤ o.2 - dy ∧ o.2 - dy < n := by
    by_cases e : o.2 = n
    · exact ⟨1, .inr rfl, by omega, by omega⟩
    · exact ⟨0, .inl rfl, by omega, by omega⟩
  refine openB_true.2 ⟨(o.1 - dx, o.2 - dy), sqO_mem.2 (by dsimp only; omega), fun q hq => ?_⟩
  rw [sqO_mem] at hq
  have := h (q.1 + dx, q.2 + dy) (sqO_mem.2 (by dsimp only; omega))
  dsimp only at this ⊢
  rwa [show x - o.1 + (q.1 + dx) = x - (o.1 - dx) + q.1 by omega, show y - o.2 + (q.2 + dy) = y - (o.2 - dy) + q.2 by omega] at this
theorem open_one {x y : Int} : openB W H l (sqO 1) x y = pxl W H l x y := by
  rw [Bool.eq_iff_iff]
  constructor
  · exact open_sub
  · intro h
    refine openB_true.2 ⟨(0, 0), sqO_mem.2 (by dsimp only; omega), fun q hq => ?_⟩
    rw [sqO_mem] at hq
    dsimp only
    rwa [show x - 0 + q.1 = x by omega, show y - 0 + q.2 = y by omega]
theorem spots_le {k : Nat} (h : ∀ i, l.getD i false = true → l'.getD i false = true) : (spotsTo W l k).length ≤ (spotsTo W l' k).length := by
  unfold spotsTo
  rw [List.length_map, List.length_map]
  induction k with
  | zero => exact Nat.le_refl _
  | succ k ih =>
    rw [List.range_succ, List.filter_append, List.filter_append, List.length_append, List.length_append]
    have : (List.filter (fun i => l.getD i false) [k]).length ≤ (List.filter (fun i => l'.getD i false) [k]).length := by
      cases e : l.getD k false
      · rw [List.filter_cons_of_neg (by rw [e]; decide)]; exact Nat.zero_le _
      · rw [List.filter_cons_of_pos (by rw [e]), List.filter_cons_of_pos (by rw [h k e])]; exact Nat.le_refl _
    omega
end
end Go.Proofs.Ytkpgelhmeokemaa
