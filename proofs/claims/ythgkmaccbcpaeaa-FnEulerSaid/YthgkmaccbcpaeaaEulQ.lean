/- FnEuler, plain: a pixel more, in reading order; the sum over windows. -/
import Derived.Test.YthgkmaccbcpaeaaEulP
namespace Go.Proofs.Ythgkmaccbcpaeaa
open Go Go.RowKit
/-! Sums. -/
def sI (f : Nat → Int) : Nat → Int
  | 0 => 0
  | n + 1 => sI f n + f n
theorem sI_congr {f g : Nat → Int} : ∀ {n : Nat}, (∀ i, i < n → f i = g i) → sI f n = sI g n
  | 0, _ => rfl
  | n + 1, h => by
    show sI f n + f n = sI g n + g n
    rw [sI_congr fun i hi => h i (by omega), h n (by omega)]
theorem sI_zero {f : Nat → Int} : ∀ {n : Nat}, (∀ i, i < n → f i = 0) → sI f n = 0
  | 0, _ => rfl
  | n + 1, h => by
    show sI f n + f n = 0
    rw [sI_zero fun i hi => h i (by omega), h n (by omega)]
    rfl
theorem sI_neg (f : Nat → Int) : ∀ n, sI (fun i => - f i) n = - sI f n
  | 0 => rfl
  | n + 1 => by
    show sI (fun i => - f i) n + - f n = - (sI f n + f n)
    rw [sI_neg f n]
    omega
theorem sI_add (f g : Nat → Int) : ∀ n, sI (fun i => f i + g i) n = sI f n + sI g n
  | 0 => rfl
  | n + 1 => by
    show sI (fun i => f i + g i) n + (f n + g n) = sI f n + f n + (sI g n + g n)
    rw [sI_add f g n]
    omega
theorem sI_ends (f : Nat → Int) : ∀ n, sI f (n + 2) = f 0 + sI (fun i => f (i + 1)) n + f (n + 1)
  | 0 => by show (0 + f 0) + f 1 = f 0 + 0 + f 1; omega
  | n + 1 => by
    show sI f (n + 2) + f (n + 2) = f 0 + (sI (fun i => f (i + 1)) n + f (n + 1)) + f (n + 2)
    rw [sI_ends f n]
    omega
theorem sI_one {f g : Nat → Int} {a : Nat} : ∀ {n : Nat}, a < n → (∀ i, i < n → i ≠ a → f i = g i) → sI f n = sI g n + (f a - g a)
  | 0, h, _ => by omega
  | n + 1, h, h2 => by
    show sI f n + f n = sI g n + g n + (f a - g a)
    by_cases e : a = n
    · subst e
      rw [sI_congr fun i hi => h2 i (by omega) (by omega)]
      omega
    · rw [sI_one (show a < n by omega) fun i hi hn => h2 i (by omega) hn, h2 n (by omega) (by omega)]
      omega
theorem sI_two {f g : Nat → Int} {a n : Nat} (h : a + 1 < n) (h2 : ∀ i, i < n → i ≠ a → i ≠ a + 1 → f i = g i) : sI f n = sI g n + (f a - g a) + (f (a + 1) - g (a + 1)) := by
  have h3 := sI_one (f := f) (g := fun i => if i = a then g a else f i) (a := a) (show a < n by omega) fun i _ hn => by simp only [if_neg hn]
  have h4 := sI_one (f := fun i => if i = a then g a else f i) (g := g) (a := a + 1) h fun i hi hn => by
    by_cases e : i = a
    · simp only [if_pos e]; rw [e]
    · simp only [if_neg e]; exact h2 i hi e hn
  simp only [if_true] at h3
  rw [if_neg (show ¬ a + 1 = a by omega)] at h4
  rw [h3, h4]
  omega
/-! Windows. -/
def one1 (a b c d : Bool) : Int := if oneB a + oneB b + oneB c + oneB d = 1 then 1 else 0
  where oneB (b : Bool) : Nat := if b then 1 else 0
def three1 (a b c d : Bool) : Int := if one1.oneB a + one1.oneB b + one1.oneB c + one1.oneB d = 3 then 1 else 0
def diag1 (a b c d : Bool) : Int := if one1.oneB a + one1.oneB b + one1.oneB c + one1.oneB d = 2 ∧ a = d then 1 else 0
def win (e a b c d : Bool) : Int := one1 a b c d - three1 a b c d + (if e then -2 else 2) * diag1 a b c d
def winA (e : Bool) (B : Int × Int → Bool) (i j : Nat) : Int := win e (B ((j : Int) - 1, (i : Int) - 1)) (B ((j : Int), (i : Int) - 1)) (B ((j : Int) - 1, (i : Int))) (B ((j : Int), (i : Int)))
def chi (e : Bool) (W H : Nat) (B : Int × Int → Bool) : Int := sI (fun i => sI (fun j => winA e B i j) (W + 1)) (H + 1)
/-- What a pixel more adds, by those around that are before it. -/
def dlt (e nw n ne w : Bool) : Int := (win e nw n w true - win e nw n w false) + (win e n ne true false - win e n ne false false) + ((win e w true false false - win e w false false false) + (win e true false false false - win e false false false false))
theorem dlt_none (e nw ne : Bool) (h : e = true → nw = false ∧ ne = false) : dlt e nw false ne false = 4 := by
  cases e
  · cases nw <;> cases ne <;> decide
  · obtain ⟨rfl, rfl⟩ := h rfl; decide
/-- Two groups of black ones around. -/
def twoG (e nw n ne w : Bool) : Bool := if e then !n && ne && (w || nw) else w && n && !nw
theorem dlt_two (e nw n ne w : Bool) (h : twoG e nw n ne w = true) : dlt e nw n ne w = -4 := by
  revert h
  cases e <;> cases nw <;> cases n <;> cases ne <;> cases w <;> decide
theorem dlt_one (e nw n ne w : Bool) (h : twoG e nw n ne w = false) (h2 : n = true ∨ w = true ∨ (e = true ∧ (nw = true ∨ ne = true))) : dlt e nw n ne w = 0 := by
  revert h h2
  cases e <;> cases nw <;> cases n <;> cases ne <;> cases w <;> decide
theorem chi_add {e : Bool} {W H : Nat} {B : Int × Int → Bool} {x y : Nat} (hx : x < W) (hy : y < H) (hB : ∀ q, B q = true → q.2 < y ∨ q.2 = y ∧ q.1 < x) :
    chi e W H (fun q => B q || decide (q = ((x : Int), (y : Int)))) = chi e W H B + dlt e (B ((x : Int) - 1, (y : Int) - 1)) (B ((x : Int), (y : Int) - 1)) (B ((x : Int) + 1, (y : Int) - 1)) (B ((x : Int) - 1, (y : Int))) := by
  obtain ⟨C, hC⟩ : ∃ C : Int × Int → Bool, C = fun q => B q || decide (q = ((x : Int), (y : Int))) := ⟨_, rfl⟩
  rw [← hC]
  have hn : ∀ q : Int × Int, ¬ (q.2 < y ∨ q.2 = y ∧ q.1 < x) → B q = false := fun q h => by
    cases hq : B q
    · rfl
    · exact absurd (hB q hq) h
  have h1 : C ((x : Int), (y : Int)) = true := by rw [hC]; simp
  have h2 : ∀ u v : Int, ¬ (u = x ∧ v = y) → C (u, v) = B (u, v) := fun u v h => by
    rw [hC]
    simp only [Prod.mk.injEq, decide_eq_false h, Bool.or_false]
  have h3 : ∀ i j : Nat, ¬ ((j = x ∨ j = x + 1) ∧ (i = y ∨ i = y + 1)) → winA e C i j = winA e B i j := fun i j h => by
    unfold winA
    rw [h2 _ _ (by omega), h2 _ _ (by omega), h2 _ _ (by omega), h2 _ _ (by omega)]
  have z0 := hn ((x : Int), (y : Int)) (by simp only; first | omega | (simp; done) | (simp; omega))
  have z1 := hn ((x : Int) + 1, (y : Int)) (by simp only; first | omega | (simp; done) | (simp; omega))
  have z2 := hn ((x : Int) - 1, (y : Int) + 1) (by simp only; first | omega | (simp; done) | (simp; omega))
  have z3 := hn ((x : Int), (y : Int) + 1) (by simp only; first | omega | (simp; done) | (simp; omega))
  have z4 := hn ((x : Int) + 1, (y : Int) + 1) (by simp only; first | omega | (simp; done) | (simp; omega))
  have c1 := h2 ((x : Int) - 1) ((y : Int) - 1) (by omega)
  have c2 := h2 (x : Int) ((y : Int) - 1) (by omega)
  have c3 := h2 ((x : Int) + 1) ((y : Int) - 1) (by omega)
  have c4 := h2 ((x : Int) - 1) (y : Int) (by omega)
  have c5 := h2 ((x : Int) + 1) (y : Int) (by omega)
  have c6 := h2 ((x : Int) - 1) ((y : Int) + 1) (by omega)
  have c7 := h2 (x : Int) ((y : Int) + 1) (by omega)
  have c8 := h2 ((x : Int) + 1) ((y : Int) + 1) (by omega)
  have s1 : (((x + 1 : Nat) : Int)) - 1 = x := by omega
  have s2 : (((y + 1 : Nat) : Int)) - 1 = y := by omega
  have s3 : ((x + 1 : Nat) : Int) = (x : Int) + 1 := by omega
  have s4 : ((y + 1 : Nat) : Int) = (y : Int) + 1 := by omega
  unfold chi
  rw [sI_two (f := fun i => sI (fun j => winA e C i j) (W + 1)) (g := fun i => sI (fun j => winA e B i j) (W + 1)) (a := y) (by omega) fun i _ a1 a2 => sI_congr fun j _ => h3 i j (by omega),
    sI_two (f := fun j => winA e C y j) (g := fun j => winA e B y j) (a := x) (by omega) fun j _ a1 a2 => h3 y j (by omega),
    sI_two (f := fun j => winA e C (y + 1) j) (g := fun j => winA e B (y + 1) j) (a := x) (by omega) fun j _ a1 a2 => h3 (y + 1) j (by omega)]
  have w1 : winA e C y x - winA e B y x = win e (B ((x : Int) - 1, (y : Int) - 1)) (B ((x : Int), (y : Int) - 1)) (B ((x : Int) - 1, (y : Int))) true - win e (B ((x : Int) - 1, (y : Int) - 1)) (B ((x : Int), (y : Int) - 1)) (B ((x : Int) - 1, (y : Int))) false := by
    unfold winA
    rw [c1, c2, c4, h1, z0]
  have w2 : winA e C y (x + 1) - winA e B y (x + 1) = win e (B ((x : Int), (y : Int) - 1)) (B ((x : Int) + 1, (y : Int) - 1)) true false - win e (B ((x : Int), (y : Int) - 1)) (B ((x : Int) + 1, (y : Int) - 1)) false false := by
    unfold winA
    rw [s1, s3, c2, c3, h1, c5, z0, z1]
  have w3 : winA e C (y + 1) x - winA e B (y + 1) x = win e (B ((x : Int) - 1, (y : Int))) true false false - win e (B ((x : Int) - 1, (y : Int))) false false false := by
    unfold winA
    rw [s2, s4, c4, h1, c6, c7, z0, z2, z3]
  have w4 : winA e C (y + 1) (x + 1) - winA e B (y + 1) (x + 1) = win e true false false false - win e false false false false := by
    unfold winA
    rw [s1, s2, s3, s4, h1, c5, c7, c8, z0, z1, z3, z4]
  unfold dlt
  rw [← w1, ← w2, ← w3, ← w4]
  omega
/-! White, within a frame. -/
def whiteF (W H : Nat) (B : Int × Int → Bool) (q : Int × Int) : Bool := decide (-1 ≤ q.1 ∧ q.1 ≤ W ∧ -1 ≤ q.2 ∧ q.2 ≤ H) && !B q
def Good (e : Bool) (W H : Nat) (B : Int × Int → Bool) : Prop := ∃ LB LW, Covers B (nbA e) LB ∧ Apart (whiteF W H B) (nbA (!e)) LW ∧ 4 * ((LB.length : Int) - LW.length + 1) ≤ chi e W H B
theorem apart_drop {R : Int × Int → Bool} {N : Int × Int → List (Int × Int)} (hN : ∀ p q, q ∈ N p → p ∈ N q) (p : Int × Int) : ∀ {L : List (Int × Int)}, Apart R N L → ∃ L', Apart R N L' ∧ (∀ t, t ∈ L' → t ∈ L ∧ ¬ Rch R N [p] t) ∧ L.length ≤ L'.length + 1
  | [], _ => ⟨[], ⟨by simp, List.Pairwise.nil⟩, by simp, by simp⟩
  | s :: L, ⟨h1, h2⟩ => by
    obtain ⟨h3, h4⟩ := List.pairwise_cons.1 h2
    have h5 : Apart R N L := ⟨fun t ht => h1 t (List.mem_cons_of_mem _ ht), h4⟩
    by_cases hs : Rch R N [p] s
    · exact ⟨L, h5, fun t ht => ⟨List.mem_cons_of_mem _ ht, fun hp => h3 t ht (Rch.trans1 (Rch.symm1 hN hs) hp)⟩, by simp⟩
    · obtain ⟨L', a1, a2, a3⟩ := apart_drop hN p h5
      refine ⟨s :: L', ⟨fun t ht => ?_, List.pairwise_cons.2 ⟨fun t ht => h3 t (a2 t ht).1, a1.2⟩⟩, fun t ht => ?_, by simp; omega⟩
      · rcases List.mem_cons.1 ht with rfl | ht
        · exact h1 _ (List.mem_cons_self)
        · exact a1.1 t ht
      · rcases List.mem_cons.1 ht with rfl | ht
        · exact ⟨List.mem_cons_self, hs⟩
        · exact ⟨List.mem_cons_of_mem _ (a2 t ht).1, (a2 t ht).2⟩
theorem good_add {e : Bool} {W H : Nat} {B : Int × Int → Bool} {x y : Nat} (hx : x < W) (hy : y < H) (hbox : ∀ q, B q = true → 0 ≤ q.1 ∧ q.1 < W ∧ 0 ≤ q.2 ∧ q.2 < H)
    (hB : ∀ q, B q = true → q.2 < y ∨ q.2 = y ∧ q.1 < x) (h : Good e W H B) : Good e W H (fun q => B q || decide (q = ((x : Int), (y : Int)))) := by
  obtain ⟨LB, LW, g1, g2, g3⟩ := h
  have hchi := chi_add (e := e) hx hy hB
  obtain ⟨C, hC⟩ : ∃ C : Int × Int → Bool, C = fun q => B q || decide (q = ((x : Int), (y : Int))) := ⟨_, rfl⟩
  rw [← hC] at hchi ⊢
  obtain ⟨p, hp⟩ : ∃ p : Int × Int, p = ((x : Int), (y : Int)) := ⟨_, rfl⟩
  have cp : C p = true := by rw [hC, hp]; simp
  have cb : ∀ q, B q = true → C q = true := fun q hq => by rw [hC]; simp [hq]
  have co : ∀ q, C q = true → B q = true ∨ q = p := fun q hq => by
    rw [hC] at hq
    simp only [Bool.or_eq_true, decide_eq_true_eq] at hq
    rw [hp]; exact hq
  have hsym := nbA_symm e
  have hsym' := nbA_symm (!e)
  have bp : B p = false := by
    cases hq : B p
    · rfl
    · have := hB p hq; rw [hp] at this; simp only at this; omega
  have nB : ∀ q : Int × Int, ¬ (q.2 < y ∨ q.2 = y ∧ q.1 < x) → B q = false := fun q h => by
    cases hq : B q
    · rfl
    · exact absurd (hB q hq) h
  have wI : ∀ q, whiteF W H C q = true → whiteF W H B q = true := fun q hq => by
    unfold whiteF at hq ⊢
    cases hb : B q
    · rw [Bool.and_eq_true] at hq ⊢
      exact ⟨hq.1, rfl⟩
    · rw [cb q hb] at hq; simp at hq
  have wp : whiteF W H B p = true := by
    unfold whiteF
    rw [bp, hp]
    simp
    omega
  have wmk : ∀ q : Int × Int, (-1 ≤ q.1 ∧ q.1 ≤ W ∧ -1 ≤ q.2 ∧ q.2 ≤ H) → B q = false → q ≠ p → whiteF W H C q = true := fun q h1 h2 h3 => by
    unfold whiteF
    rw [decide_eq_true h1, hC]
    simp only [h2, Bool.false_or, Bool.true_and, Bool.not_eq_true', decide_eq_false_iff_not]
    rw [hp] at h3; exact h3
  have wno : ∀ q, whiteF W H C q = true → B q = false ∧ q ≠ ((x : Int), (y : Int)) := fun q hq => by
    unfold whiteF at hq
    rw [Bool.and_eq_true] at hq
    have h2 := hq.2
    cases hb : B q
    · refine ⟨rfl, ?_⟩
      rintro rfl
      rw [← hp, cp] at h2
      cases h2
    · rw [cb q hb] at h2; cases h2
  obtain ⟨LK, k1, k2, k3⟩ := apart_drop hsym' p g2
  have addW : ∀ q L, whiteF W H C q = true → q ∈ nbA (!e) p → Apart (whiteF W H C) (nbA (!e)) L → (∀ t, t ∈ L → ¬ Rch (whiteF W H C) (nbA (!e)) [q] t) → Apart (whiteF W H C) (nbA (!e)) (q :: L) := fun q L h1 h2 h3 h4 =>
    ⟨fun t ht => (List.mem_cons.1 ht).elim (fun e => by rw [e]; exact h1) (h3.1 t), List.pairwise_cons.2 ⟨h4, h3.2⟩⟩
  have far : ∀ q, whiteF W H C q = true → q ∈ nbA (!e) p → ∀ t, t ∈ LK → ¬ Rch (whiteF W H C) (nbA (!e)) [q] t := fun q h1 h2 t ht hr =>
    (k2 t ht).2 (Rch.trans1 (.step (.start (List.mem_singleton.2 rfl) wp) h2 (wI q h1)) (Rch.mono1 wI hr))
  have keep : Apart (whiteF W H C) (nbA (!e)) LK := ⟨fun t ht => by
    have h1 := k1.1 t ht
    unfold whiteF at h1
    rw [Bool.and_eq_true] at h1
    refine wmk t (of_decide_eq_true h1.1) (by have := h1.2; cases hb : B t; rfl; rw [hb] at this; cases this) ?_
    rintro rfl
    exact (k2 _ ht).2 (.start (List.mem_singleton.2 rfl) wp), k1.2.imp fun h hr => h (Rch.mono1 wI hr)⟩
  have dW : whiteF W H C ((x : Int), (y : Int) + 1) = true := wmk _ (by simp only; first | omega | (simp; done) | (simp; omega)) (nB _ (by simp only; first | omega | (simp; done) | (simp; omega))) (by rw [hp]; simp only [ne_eq, Prod.mk.injEq]; omega)
  have dN : ((x : Int), (y : Int) + 1) ∈ nbA (!e) p := nbA_one (by rw [hp]; simp only; first | omega | (simp; done) | (simp; omega))
  have WD := addW _ LK dW dN keep (far _ dW dN)
  have lenD : (((x : Int), (y : Int) + 1) :: LK).length = LK.length + 1 := rfl
  -- a black neighbour: p is reached from it
  have cov : ∀ X, B X = true → p ∈ nbA e X → Covers C (nbA e) LB := fun X hX hn q hq => by
    rcases co q hq with hq | rfl
    · obtain ⟨r, r1, r2⟩ := g1 q hq
      exact ⟨r, r1, Rch.mono1 cb r2⟩
    · obtain ⟨r, r1, r2⟩ := g1 X hX
      exact ⟨r, r1, .step (Rch.mono1 cb r2) hn cp⟩
  by_cases h2 : twoG e (B ((x : Int) - 1, (y : Int) - 1)) (B ((x : Int), (y : Int) - 1)) (B ((x : Int) + 1, (y : Int) - 1)) (B ((x : Int) - 1, (y : Int))) = true
  · rw [dlt_two _ _ _ _ _ h2] at hchi
    obtain ⟨X, Y, U, x1, y1, x2, y2, u1, u2, hU⟩ : ∃ X Y U : Int × Int, B X = true ∧ B Y = true ∧ p ∈ nbA e X ∧ p ∈ nbA e Y ∧ whiteF W H C U = true ∧ U ∈ nbA (!e) p ∧
        ((e = false ∧ X = ((x : Int) - 1, (y : Int)) ∧ Y = ((x : Int), (y : Int) - 1) ∧ U = ((x : Int) - 1, (y : Int) - 1)) ∨ (e = true ∧ (X = ((x : Int) - 1, (y : Int)) ∨ X = ((x : Int) - 1, (y : Int) - 1)) ∧ Y = ((x : Int) + 1, (y : Int) - 1) ∧ U = ((x : Int), (y : Int) - 1))) := by
      unfold twoG at h2
      cases e
      · simp only [Bool.false_eq_true, if_false, Bool.and_eq_true, Bool.not_eq_true'] at h2
        obtain ⟨⟨h3, h4⟩, h5⟩ := h2
        have b1 := hbox _ h3
        have b2 := hbox _ h4
        simp only at b1 b2
        exact ⟨_, _, _, h3, h4, nbA_one (by rw [hp]; simp only; first | omega | (simp; done) | (simp; omega)), nbA_one (by rw [hp]; simp only; first | omega | (simp; done) | (simp; omega)), wmk _ (by simp only; first | omega | (simp; done) | (simp; omega)) h5 (by rw [hp]; simp only [ne_eq, Prod.mk.injEq]; omega), nbA_dia rfl (by rw [hp]; simp only; first | omega | (simp; done) | (simp; omega)) (by rw [hp]; simp only; first | omega | (simp; done) | (simp; omega)), .inl ⟨rfl, rfl, rfl, rfl⟩⟩
      · simp only [if_true, Bool.and_eq_true, Bool.not_eq_true', Bool.or_eq_true] at h2
        obtain ⟨⟨h3, h4⟩, h5⟩ := h2
        have b2 := hbox _ h4
        simp only at b2
        have w1 := wmk ((x : Int), (y : Int) - 1) (by simp only; first | omega | (simp; done) | (simp; omega)) h3 (by rw [hp]; simp only [ne_eq, Prod.mk.injEq]; omega)
        rcases h5 with h5 | h5
        · exact ⟨_, _, _, h5, h4, nbA_one (by rw [hp]; simp only; first | omega | (simp; done) | (simp; omega)), nbA_dia rfl (by rw [hp]; simp only; omega) (by rw [hp]; simp only; omega), w1, nbA_one (by rw [hp]; simp only; first | omega | (simp; done) | (simp; omega)), .inr ⟨rfl, .inl rfl, rfl, rfl⟩⟩
        · exact ⟨_, _, _, h5, h4, nbA_dia rfl (by rw [hp]; simp only; omega) (by rw [hp]; simp only; omega), nbA_dia rfl (by rw [hp]; simp only; omega) (by rw [hp]; simp only; omega), w1, nbA_one (by rw [hp]; simp only; first | omega | (simp; done) | (simp; omega)), .inr ⟨rfl, .inr rfl, rfl, rfl⟩⟩
    by_cases hr : ∃ r, r ∈ LB ∧ Rch B (nbA e) [r] X ∧ Rch B (nbA e) [r] Y
    · obtain ⟨r, -, r1, r2⟩ := hr
      obtain ⟨c, n, c1, c2, c3⟩ := Rch.way (Rch.trans1 (Rch.symm1 hsym r1) r2)
      have hj := jordan (w := whiteF W H C) (U := U) c1 hB wno (by rw [c2, c3]; exact hU)
      refine ⟨LB, U :: ((x : Int), (y : Int) + 1) :: LK, cov X x1 x2, addW U _ u1 u2 WD fun t ht => ?_, ?_⟩
      · rcases List.mem_cons.1 ht with rfl | ht
        · exact hj
        · exact far U u1 u2 t ht
      · rw [hchi]
        simp only [List.length_cons]
        omega
    · obtain ⟨r1, a1, a2⟩ := g1 X x1
      obtain ⟨r2, b1, b2⟩ := g1 Y y1
      have hne : r1 ≠ r2 := fun h => hr ⟨r1, a1, a2, by rw [h]; exact b2⟩
      have hm : r1 ∈ LB.erase r2 := (List.mem_erase_of_ne hne).2 a1
      have hp1 : Rch C (nbA e) [r1] p := .step (Rch.mono1 cb a2) x2 cp
      refine ⟨LB.erase r2, ((x : Int), (y : Int) + 1) :: LK, fun q hq => ?_, WD, ?_⟩
      · rcases co q hq with hq | rfl
        · obtain ⟨r, d1, d2⟩ := g1 q hq
          by_cases hrr : r = r2
          · subst hrr
            exact ⟨r1, hm, Rch.trans1 (Rch.trans1 hp1 (Rch.symm1 hsym (.step (Rch.mono1 cb b2) y2 cp))) (Rch.mono1 cb d2)⟩
          · exact ⟨r, (List.mem_erase_of_ne hrr).2 d1, Rch.mono1 cb d2⟩
        · exact ⟨r1, hm, hp1⟩
      · have hl : (LB.erase r2).length = LB.length - 1 := List.length_erase_of_mem b1
        have hpos : 0 < LB.length := List.length_pos_of_mem b1
        rw [hchi, hl]
        simp only [List.length_cons]
        omega
  · have h2 := Bool.eq_false_iff.2 h2
    by_cases h3 : ∃ X, B X = true ∧ p ∈ nbA e X
    · obtain ⟨X, x1, x2⟩ := h3
      have hd := dlt_one _ _ _ _ _ h2 (by
        rw [hp, nbA_iff] at x2
        obtain ⟨X1, X2⟩ := X
        have hb := hB _ x1
        simp only at x2 hb
        have hcase : (X1 = x ∧ X2 = (y : Int) - 1) ∨ (X1 = (x : Int) - 1 ∧ X2 = y) ∨ (e = true ∧ ((X1 = (x : Int) - 1 ∧ X2 = (y : Int) - 1) ∨ (X1 = (x : Int) + 1 ∧ X2 = (y : Int) - 1))) := by
          rcases x2.2.2 with h7 | h7
          · have h8 : (X1 = x ∧ X2 = (y : Int) - 1) ∨ (X1 = (x : Int) - 1 ∧ X2 = y) ∨ ((X1 = (x : Int) - 1 ∧ X2 = (y : Int) - 1) ∨ (X1 = (x : Int) + 1 ∧ X2 = (y : Int) - 1)) := by omega
            exact h8.imp_right (Or.imp_right fun h9 => ⟨h7, h9⟩)
          · have h8 : (X1 = x ∧ X2 = (y : Int) - 1) ∨ (X1 = (x : Int) - 1 ∧ X2 = y) := by omega
            exact h8.imp_right .inl
        rcases hcase with ⟨rfl, rfl⟩ | ⟨rfl, rfl⟩ | ⟨he, ⟨rfl, rfl⟩ | ⟨rfl, rfl⟩⟩
        · exact .inl x1
        · exact .inr (.inl x1)
        · exact .inr (.inr ⟨he, .inl x1⟩)
        · exact .inr (.inr ⟨he, .inr x1⟩))
      rw [hd] at hchi
      refine ⟨LB, _, cov X x1 x2, WD, ?_⟩
      rw [hchi, lenD]
      omega
    · have no : ∀ X, p ∈ nbA e X → B X = false := fun X hX => by
        cases hb : B X
        · rfl
        · exact absurd ⟨X, hb, hX⟩ h3
      have n1 := no ((x : Int), (y : Int) - 1) (nbA_one (by rw [hp]; simp only; first | omega | (simp; done) | (simp; omega)))
      have n2 := no ((x : Int) - 1, (y : Int)) (nbA_one (by rw [hp]; simp only; first | omega | (simp; done) | (simp; omega)))
      rw [n1, n2, dlt_none _ _ _ fun he => ⟨no _ (nbA_dia he (by rw [hp]; simp only; first | omega | (simp; done) | (simp; omega)) (by rw [hp]; simp only; first | omega | (simp; done) | (simp; omega))), no _ (nbA_dia he (by rw [hp]; simp only; first | omega | (simp; done) | (simp; omega)) (by rw [hp]; simp only; first | omega | (simp; done) | (simp; omega)))⟩] at hchi
      refine ⟨p :: LB, _, fun q hq => ?_, WD, ?_⟩
      · rcases co q hq with hq | rfl
        · obtain ⟨r, r1, r2⟩ := g1 q hq
          exact ⟨r, List.mem_cons_of_mem _ r1, Rch.mono1 cb r2⟩
        · exact ⟨_, List.mem_cons_self, .start (List.mem_singleton.2 rfl) cp⟩
      · rw [hchi, lenD]
        simp only [List.length_cons]
        omega
/-- The pixels ahead of a spot, in reading order. -/
def ahead (B : Int × Int → Bool) (x y : Nat) (q : Int × Int) : Bool := B q && decide (q.2 < y ∨ q.2 = y ∧ q.1 < x)
theorem good_all {e : Bool} {W H : Nat} {B : Int × Int → Bool} (hbox : ∀ q, B q = true → 0 ≤ q.1 ∧ q.1 < W ∧ 0 ≤ q.2 ∧ q.2 < H) : Good e W H B := by
  have h0 : Good e W H (ahead B 0 0) := by
    have hz : ahead B 0 0 = fun _ => false := funext fun q => by
      unfold ahead
      cases hb : B q
      · rfl
      · have := hbox q hb
        rw [decide_eq_false (by omega)]
        rfl
    rw [hz]
    refine ⟨[], [(-1, -1)], fun q hq => by simp at hq, ⟨fun s hs => ?_, List.pairwise_singleton _ _⟩, ?_⟩
    · rw [List.mem_singleton.1 hs]
      unfold whiteF
      rw [decide_eq_true (by simp only; first | omega | (simp; done) | (simp; omega))]
      rfl
    · have : chi e W H (fun _ => false) = 0 := sI_zero fun i _ => sI_zero fun j _ => by
        show win e false false false false = 0
        cases e <;> decide
      rw [this]
      decide
  have hx : ∀ y, y < H → Good e W H (ahead B 0 y) → ∀ x, x ≤ W → Good e W H (ahead B x y) := by
    intro y hy h1 x
    induction x with
    | zero => intro _; exact h1
    | succ x ih =>
      intro hx
      have h2 := ih (by omega)
      cases hb : B ((x : Int), (y : Int))
      · have : ahead B (x + 1) y = ahead B x y := funext fun q => by
          unfold ahead
          by_cases hq : q = ((x : Int), (y : Int))
          · rw [hq, hb]; rfl
          · have : ¬ (q.1 = x ∧ q.2 = y) := fun h => hq (Prod.ext h.1 h.2)
            congr 1
            refine decide_eq_decide.2 ?_
            omega
        rw [this]; exact h2
      · have : ahead B (x + 1) y = fun q => ahead B x y q || decide (q = ((x : Int), (y : Int))) := funext fun q => by
          unfold ahead
          by_cases hq : q = ((x : Int), (y : Int))
          · rw [decide_eq_true hq, hq, hb, Bool.or_true, decide_eq_true (by simp only; first | omega | (simp; done) | (simp; omega))]; rfl
          · have : ¬ (q.1 = x ∧ q.2 = y) := fun h => hq (Prod.ext h.1 h.2)
            rw [decide_eq_false hq, Bool.or_false]
            congr 1
            refine decide_eq_decide.2 ?_
            omega
        rw [this]
        refine good_add (by omega) hy (fun q hq => hbox q ?_) (fun q hq => ?_) h2
        · unfold ahead at hq; exact (Bool.and_eq_true _ _ ▸ hq : _ ∧ _).1
        · unfold ahead at hq; exact of_decide_eq_true (Bool.and_eq_true _ _ ▸ hq : _ ∧ _).2
  have hy : ∀ y, y ≤ H → Good e W H (ahead B 0 y) := by
    intro y
    induction y with
    | zero => intro _; exact h0
    | succ y ih =>
      intro hy
      have h2 := hx y (by omega) (ih (by omega)) W (Nat.le_refl _)
      have : ahead B 0 (y + 1) = ahead B W y := funext fun q => by
        unfold ahead
        cases hb : B q
        · rfl
        · have := hbox q hb
          congr 1
          refine decide_eq_decide.2 ?_
          omega
      rw [this]; exact h2
  have := hy H (Nat.le_refl _)
  have e1 : ahead B 0 H = B := funext fun q => by
    unfold ahead
    cases hb : B q
    · rfl
    · have := hbox q hb
      rw [decide_eq_true (by omega)]
      rfl
  rw [e1] at this
  exact this
end Go.Proofs.Ythgkmaccbcpaeaa
