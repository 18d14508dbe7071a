/- FnReached, plain: a filled picture has no holes. -/
import Derived.Test.YtpdmfnndegcjjaaRdP
import Derived.Test.YtpdmfnndegcjjaaSumP
namespace Go.Proofs.Ytpdmfnndegcjjaa
open Go Go.RowKit
/-- The frame around a picture is reached from its corner. -/
theorem frame_all {W H : Nat} {big : Int × Int → Bool} {N : Int × Int → List (Int × Int)}
    (hfr : ∀ p : Int × Int, (-1 ≤ p.1 ∧ p.1 ≤ W ∧ -1 ≤ p.2 ∧ p.2 ≤ H) → ¬ (0 ≤ p.1 ∧ p.1 < W ∧ 0 ≤ p.2 ∧ p.2 < H) → big p = true)
    (hn4 : ∀ p : Int × Int, (p.1, p.2 - 1) ∈ N p ∧ (p.1 - 1, p.2) ∈ N p ∧ (p.1 + 1, p.2) ∈ N p ∧ (p.1, p.2 + 1) ∈ N p)
    (p : Int × Int) (hp : -1 ≤ p.1 ∧ p.1 ≤ W ∧ -1 ≤ p.2 ∧ p.2 ≤ H) (ho : ¬ (0 ≤ p.1 ∧ p.1 < W ∧ 0 ≤ p.2 ∧ p.2 < H)) : Rch big N [(-1, -1)] p := by
  have start : Rch big N [(-1, -1)] (-1, -1) := .start (by simp) (hfr _ (by dsimp only; omega) (by dsimp only; omega))
  have stepx : ∀ (y : Int), (y = -1 ∨ y = H) → Rch big N [(-1, -1)] (-1, y) → ∀ k : Nat, k ≤ W + 1 → Rch big N [(-1, -1)] (-1 + (k : Int), y) := by
    intro y hy h0 k
    induction k with
    | zero => intro _; simpa using h0
    | succ k ih =>
      intro hk
      have h1 := ih (by omega)
      refine .step h1 ?_ (hfr _ (by dsimp only; omega) (by dsimp only; omega))
      have := (hn4 (-1 + (k : Int), y)).2.2.1
      have e : ((-1 + (k : Int)) + 1, y) = (-1 + ((k + 1 : Nat) : Int), y) := by rw [Prod.mk.injEq]; exact ⟨by omega, by omega⟩
      rwa [e] at this
  have stepy : ∀ (x : Int), (x = -1 ∨ x = W) → Rch big N [(-1, -1)] (x, -1) → ∀ k : Nat, k ≤ H + 1 → Rch big N [(-1, -1)] (x, -1 + (k : Int)) := by
    intro x hx h0 k
    induction k with
    | zero => intro _; simpa using h0
    | succ k ih =>
      intro hk
      have h1 := ih (by omega)
      refine .step h1 ?_ (hfr _ (by dsimp only; omega) (by dsimp only; omega))
      have := (hn4 (x, -1 + (k : Int))).2.2.2
      have e : (x, (-1 + (k : Int)) + 1) = (x, -1 + ((k + 1 : Nat) : Int)) := by rw [Prod.mk.injEq]; exact ⟨by omega, by omega⟩
      rwa [e] at this
  have left : ∀ y : Int, -1 ≤ y → y ≤ H → Rch big N [(-1, -1)] (-1, y) := fun y h1 h2 => by
    have := stepy (-1) (.inl rfl) start (y + 1).toNat (by omega)
    have e : (-1 : Int) + ((y + 1).toNat : Int) = y := by omega
    rwa [e] at this
  have top : ∀ x : Int, -1 ≤ x → x ≤ W → Rch big N [(-1, -1)] (x, -1) := fun x h1 h2 => by
    have := stepx (-1) (.inl rfl) start (x + 1).toNat (by omega)
    have e : (-1 : Int) + ((x + 1).toNat : Int) = x := by omega
    rwa [e] at this
  have bottom : ∀ x : Int, -1 ≤ x → x ≤ W → Rch big N [(-1, -1)] (x, H) := fun x h1 h2 => by
    have := stepx H (.inr rfl) (left H (by omega) (by omega)) (x + 1).toNat (by omega)
    have e : (-1 : Int) + ((x + 1).toNat : Int) = x := by omega
    rwa [e] at this
  have right : ∀ y : Int, -1 ≤ y → y ≤ H → Rch big N [(-1, -1)] (W, y) := fun y h1 h2 => by
    have := stepy W (.inr rfl) (top W (by omega) (by omega)) (y + 1).toNat (by omega)
    have e : (-1 : Int) + ((y + 1).toNat : Int) = y := by omega
    rwa [e] at this
  obtain ⟨x, y⟩ := p
  dsimp only at hp ho
  by_cases h1 : x = -1
  · subst h1; exact left y (by omega) (by omega)
  · by_cases h2 : y = -1
    · subst h2; exact top x (by omega) (by omega)
    · by_cases h3 : x = W
      · subst h3; exact right y (by omega) (by omega)
      · have h4 : y = H := by omega
        subst h4; exact bottom x (by omega) (by omega)
theorem bigP_iff {W H : Nat} {L : List Bool} {p : Int × Int} : bigP W H L p = true ↔ (-1 ≤ p.1 ∧ p.1 ≤ W ∧ -1 ≤ p.2 ∧ p.2 ≤ H) ∧ pxl W H L p.1 p.2 = false := by
  unfold bigP
  rw [Bool.and_eq_true, Bool.and_eq_true, inB_true, inB_true, Bool.not_eq_true']
  constructor
  · rintro ⟨⟨h1, h2⟩, h3⟩; exact ⟨by omega, h3⟩
  · rintro ⟨h1, h3⟩; exact ⟨⟨by omega, by omega⟩, h3⟩
section
variable {W H : Nat} {L : List Bool} {e : Bool} {g : Nat → Nat → Bool}
/-- The picture that is filled. -/
def filL (W H : Nat) (g : Nat → Nat → Bool) : List Bool := mkl W H fun x y => !g x y
theorem filL_at {x y : Nat} (hx : x < W) (hy : y < H) : pxl W H (filL W H g) x y = !g x y := by
  unfold filL
  rw [pxl_at _ _ _ _ _ hx hy, mkl_at _ _ _ _ _ hx hy]
theorem fill_big (hg : OutG W H L e g) (hl : L.length = W * H) (hW : 1 ≤ W) (hH : 1 ≤ H) {p : Int × Int} (h : Rch (bigP W H L) (nbA e) [(-1, -1)] p) : bigP W H (filL W H g) p = true := by
  obtain ⟨h1, -⟩ := bigP_iff.1 h.right
  refine bigP_iff.2 ⟨h1, ?_⟩
  by_cases hi : 0 ≤ p.1 ∧ p.1 < W ∧ 0 ≤ p.2 ∧ p.2 < H
  · obtain ⟨x, y⟩ := p
    dsimp only at hi
    obtain ⟨x, rfl⟩ := Int.eq_ofNat_of_zero_le hi.1
    obtain ⟨y, rfl⟩ := Int.eq_ofNat_of_zero_le hi.2.2.1
    have hgt := (hg.big hl hW hH (x := x) (y := y) (by omega) (by omega)).2 h
    show pxl W H (filL W H g) x y = false
    rw [filL_at (by omega) (by omega), hgt]
    rfl
  · exact pxl_off (by omega)
theorem fill_white (hg : OutG W H L e g) (hl : L.length = W * H) (hW : 1 ≤ W) (hH : 1 ≤ H) {p : Int × Int} (hp : bigP W H (filL W H g) p = true) : Rch (bigP W H (filL W H g)) (nbA e) [(-1, -1)] p := by
  obtain ⟨h1, h2⟩ := bigP_iff.1 hp
  by_cases hi : 0 ≤ p.1 ∧ p.1 < W ∧ 0 ≤ p.2 ∧ p.2 < H
  · obtain ⟨x, y⟩ := p
    dsimp only at hi h2
    obtain ⟨x, rfl⟩ := Int.eq_ofNat_of_zero_le hi.1
    obtain ⟨y, rfl⟩ := Int.eq_ofNat_of_zero_le hi.2.2.1
    have h2 : pxl W H (filL W H g) x y = false := h2
    rw [filL_at (by omega) (by omega)] at h2
    have hr := (hg.big hl hW hH (x := x) (y := y) (by omega) (by omega)).1 (by simpa using h2)
    exact Rch.sub (fun q hq hR => .start hq (fill_big hg hl hW hH (.start hq hR))) (fun q q' h0 _ hn hR => fill_big hg hl hW hH (.step h0 hn hR)) hr
  · exact frame_all (fun q h3 h4 => bigP_iff.2 ⟨h3, pxl_off (by omega)⟩) (nbA_four e) p h1 hi
/-- Filling again changes nothing. -/
theorem fill_again {g2 : Nat → Nat → Bool} (hg : OutG W H L e g) (hl : L.length = W * H) (hW : 1 ≤ W) (hH : 1 ≤ H) (h2 : OutG W H (filL W H g) e g2) : filL W H g2 = filL W H g := by
  unfold filL
  refine mkl_congr fun x y hx hy => ?_
  have hl2 : (filL W H g).length = W * H := by unfold filL; rw [mkl_len, Nat.mul_comm]
  have e1 := h2.big hl2 hW hH hx hy
  have e2 : g2 x y = true ↔ g x y = true := by
    rw [e1]
    constructor
    · intro h
      have h3 := (bigP_iff.1 h.right).2
      have h3 : pxl W H (filL W H g) x y = false := h3
      rw [filL_at hx hy] at h3
      simpa using h3
    · intro h
      refine fill_white hg hl hW hH (bigP_iff.2 ⟨by dsimp only; omega, ?_⟩)
      show pxl W H (filL W H g) x y = false
      rw [filL_at hx hy, h]
      rfl
  rw [show g2 x y = g x y from Bool.eq_iff_iff.2 e2]
/-- A filled picture has what the picture has. -/
theorem fill_more (hg : OutG W H L e g) (hl : L.length = W * H) (hW : 1 ≤ W) (hH : 1 ≤ H) {x y : Nat} (hx : x < W) (hy : y < H) (h : L.getD (y * W + x) false = true) : (!g x y) = true := by
  cases hgt : g x y
  · rfl
  · have h3 := (bigP_iff.1 ((hg.big hl hW hH hx hy).1 hgt).right).2
    have h3 : pxl W H L x y = false := h3
    rw [pxl_at _ _ _ _ _ hx hy, h] at h3
    cases h3
theorem fill_shift {L' : List Bool} {p : Int × Int} (h : Rch (bigP W H L') (nbA e) [(-1, -1)] p) : Rch (pxP (W + 2) (H + 2) ((padL W H L').map (!·))) (nbA e) [(0, 0)] (p.1 + 1, p.2 + 1) := by
  have hR : ∀ q, bigP W H L' q = true → pxP (W + 2) (H + 2) ((padL W H L').map (!·)) (q.1 + 1, q.2 + 1) = true := fun q hq => by
    obtain ⟨h1, h2⟩ := bigP_iff.1 hq
    obtain ⟨i, hi⟩ := Int.eq_ofNat_of_zero_le (show 0 ≤ q.1 + 1 by omega)
    obtain ⟨j, hj⟩ := Int.eq_ofNat_of_zero_le (show 0 ≤ q.2 + 1 by omega)
    unfold pxP
    dsimp only
    rw [hi, hj, pxl_map_not (padL_len W H L') (by omega) (by omega), pxl_at _ _ _ _ _ (by omega) (by omega)]
    unfold padL
    rw [mkl_at _ _ _ _ _ (by omega) (by omega), show (i : Int) - 1 = q.1 by omega, show (j : Int) - 1 = q.2 by omega, h2]
    rfl
  induction h with
  | start h1 h2 =>
    have h3 := hR _ h2
    rw [List.mem_singleton.1 h1] at h3 ⊢
    exact .start (List.mem_singleton.2 rfl) h3
  | step h0 h1 h2 ih =>
    refine .step ih ?_ (hR _ h2)
    unfold nbA at h1 ⊢
    obtain ⟨d, hd, e1⟩ := List.mem_map.1 h1
    refine List.mem_map.2 ⟨d, hd, ?_⟩
    rw [← e1]
    simp only [Prod.mk.injEq]
    omega
/-- A filled picture has no holes. -/
theorem fill_holes {n : Nat} (hg : OutG W H L (!e) g) (hl : L.length = W * H) (hW : 1 ≤ W) (hH : 1 ≤ H) (hn : HolN W H (filL W H g) e n) : n = 1 := by
  obtain ⟨F, hF⟩ := hn
  have key : ∀ q, pxP (W + 2) (H + 2) ((padL W H (filL W H g)).map (!·)) q = true → Rch (pxP (W + 2) (H + 2) ((padL W H (filL W H g)).map (!·))) (nbA (!e)) [(0, 0)] q := fun q hq => by
    obtain ⟨i, j, rfl, hi, hj⟩ := pxP_nat hq
    unfold pxP at hq
    dsimp only at hq
    rw [pxl_map_not (padL_len W H _) hi hj, pxl_at _ _ _ _ _ hi hj] at hq
    unfold padL at hq
    rw [mkl_at _ _ _ _ _ hi hj] at hq
    have h := fill_shift (fill_white hg hl hW hH (p := ((i : Int) - 1, (j : Int) - 1)) (bigP_iff.2 ⟨by dsimp only; omega, by simpa using hq⟩))
    dsimp only at h
    rw [show (i : Int) - 1 + 1 = i by omega, show (j : Int) - 1 + 1 = j by omega] at h
    exact h
  have h0 : ((0 : Int), (0 : Int)) ∈ spotsTo (W + 2) ((padL W H (filL W H g)).map (!·)) ((H + 2) * (W + 2)) := by
    rw [spotsTo_mem]
    have h := fill_shift (frame_all (W := W) (H := H) (big := bigP W H (filL W H g)) (N := nbA (!e)) (fun q h3 h4 => bigP_iff.2 ⟨h3, pxl_off (by omega)⟩) (nbA_four (!e)) (-1, -1) (by dsimp only; omega) (by dsimp only; omega))
    exact h.right
  exact (LabK.one (s := (0, 0)) (fun q hq => by
    have hr := spotsTo_mem.1 hq
    exact ⟨hr, key q hr⟩) (nbA_symm (!e)) (Nat.le_refl _) hF).2 (List.length_pos_of_mem h0)
end
end Go.Proofs.Ytpdmfnndegcjjaa
