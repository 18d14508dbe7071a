/- Plain: the borders of a picture. -/
import Derived.Test.YtelaoimcaidoiaaReach
namespace Go.Proofs.Ytelaoimcaidoiaa
open Go Go.RowKit
/-- A step from a corner. -/
structure Edg where
  x : Int
  y : Int
  k : Nat
deriving DecidableEq
def dX (k : Nat) : Int := if k = 0 then 1 else if k = 2 then -1 else 0
def dY (k : Nat) : Int := if k = 1 then 1 else if k = 3 then -1 else 0
def canQ (a b c d : Bool) (k : Nat) : Bool := if k = 0 then d && !b else if k = 1 then c && !d else if k = 2 then a && !c else b && !a
def arrQ (a b c d : Bool) (k : Nat) : Bool := if k = 0 then c && !a else if k = 1 then a && !b else if k = 2 then b && !d else d && !c
def trnQ (a b c d : Bool) (k : Nat) : Nat := if canQ a b c d ((k + 1) % 4) = true then (k + 1) % 4 else if canQ a b c d k = true then k else (k + 3) % 4
theorem trnQ_ok : ∀ (a b c d : Bool) (k : Fin 4), arrQ a b c d k = true → canQ a b c d (trnQ a b c d k) = true ∧ trnQ a b c d k < 4 := by decide
theorem trnQ_inj : ∀ (a b c d : Bool) (k k' : Fin 4), arrQ a b c d k = true → arrQ a b c d k' = true → trnQ a b c d k = trnQ a b c d k' → k.val = k'.val := by decide
theorem trnQ_onto : ∀ (a b c d : Bool) (k : Fin 4), canQ a b c d k = true → ∃ k' : Fin 4, arrQ a b c d k' = true ∧ trnQ a b c d k' = k.val := by decide
def canB (f : Int → Int → Bool) (x y : Int) (k : Nat) : Bool := canQ (f (x - 1) (y - 1)) (f x (y - 1)) (f (x - 1) y) (f x y) k
def trnB (f : Int → Int → Bool) (x y : Int) (k : Nat) : Nat := trnQ (f (x - 1) (y - 1)) (f x (y - 1)) (f (x - 1) y) (f x y) k
def nxt (f : Int → Int → Bool) (e : Edg) : Edg := ⟨e.x + dX e.k, e.y + dY e.k, trnB f (e.x + dX e.k) (e.y + dY e.k) e.k⟩
def EOk (f : Int → Int → Bool) (e : Edg) : Prop := e.k < 4 ∧ canB f e.x e.y e.k = true
section
variable {f : Int → Int → Bool}
theorem arr_of {e : Edg} (h : EOk f e) : arrQ (f (e.x + dX e.k - 1) (e.y + dY e.k - 1)) (f (e.x + dX e.k) (e.y + dY e.k - 1)) (f (e.x + dX e.k - 1) (e.y + dY e.k)) (f (e.x + dX e.k) (e.y + dY e.k)) e.k = true := by
  obtain ⟨x, y, k⟩ := e
  obtain ⟨h1, h2⟩ := h
  dsimp only at h1 h2 ⊢
  have hk : k = 0 ∨ k = 1 ∨ k = 2 ∨ k = 3 := by omega
  rcases hk with rfl | rfl | rfl | rfl
  · simp [canB, canQ, arrQ, dX, dY] at h2 ⊢
    exact h2
  · simp [canB, canQ, arrQ, dX, dY] at h2 ⊢
    exact h2
  · simp [canB, canQ, arrQ, dX, dY] at h2 ⊢
    rw [show x + -1 = x - 1 by omega]; exact h2
  · simp [canB, canQ, arrQ, dX, dY] at h2 ⊢
    rw [show y + -1 = y - 1 by omega]; exact h2
theorem nxt_ok {e : Edg} (h : EOk f e) : EOk f (nxt f e) := by
  have h1 := trnQ_ok _ _ _ _ ⟨e.k, h.1⟩ (arr_of h)
  exact ⟨h1.2, h1.1⟩
theorem nxt_inj {e e' : Edg} (h : EOk f e) (h' : EOk f e') (he : nxt f e = nxt f e') : e = e' := by
  have ha := arr_of h
  have ha' := arr_of h'
  unfold nxt at he
  simp only [Edg.mk.injEq] at he
  obtain ⟨h1, h2, h3⟩ := he
  unfold trnB at h3
  rw [← h1, ← h2] at ha' h3
  have hk : e.k = e'.k := trnQ_inj _ _ _ _ ⟨e.k, h.1⟩ ⟨e'.k, h'.1⟩ ha ha' h3
  rw [hk] at h1 h2
  obtain ⟨x, y, k⟩ := e
  obtain ⟨x', y', k'⟩ := e'
  simp only [Edg.mk.injEq] at *
  exact ⟨by omega, by omega, hk⟩
def itr (f : Int → Int → Bool) : Nat → Edg → Edg
  | 0, e => e
  | n + 1, e => nxt f (itr f n e)
theorem itr_ok {e : Edg} (h : EOk f e) : ∀ n, EOk f (itr f n e)
  | 0 => h
  | n + 1 => nxt_ok (itr_ok h n)
theorem itr_add (e : Edg) (m : Nat) : ∀ n, itr f (m + n) e = itr f n (itr f m e)
  | 0 => rfl
  | n + 1 => by show nxt f (itr f (m + n) e) = nxt f (itr f n (itr f m e)); rw [itr_add e m n]
theorem itr_inj {e e' : Edg} (h : EOk f e) (h' : EOk f e') : ∀ n, itr f n e = itr f n e' → e = e'
  | 0, he => he
  | n + 1, he => itr_inj h h' n (nxt_inj (itr_ok h n) (itr_ok h' n) he)
theorem pigeon : ∀ (N : Nat) (c : Nat → Nat), (∀ i, i ≤ N → c i < N) → ∃ i j, i < j ∧ j ≤ N ∧ c i = c j
  | 0, c, h => absurd (h 0 (Nat.le_refl _)) (by omega)
  | N + 1, c, h => by
    by_cases he : ∃ i, i ≤ N ∧ c i = c (N + 1)
    · obtain ⟨i, h1, h2⟩ := he
      exact ⟨i, N + 1, by omega, Nat.le_refl _, h2⟩
    · have hn : ∀ i, i ≤ N → c i ≠ c (N + 1) := fun i hi e => he ⟨i, hi, e⟩
      obtain ⟨i, j, h1, h2, h3⟩ := pigeon N (fun i => if c i < c (N + 1) then c i else c i - 1) fun i hi => by
        have h1 := h i (by omega)
        have h2 := hn i hi
        have h3 := h (N + 1) (Nat.le_refl _)
        (try dsimp only)
        split <;> omega
      refine ⟨i, j, h1, by omega, ?_⟩
      have h4 := hn i (by omega)
      have h5 := hn j h2
      (try dsimp only at h3)
      split at h3 <;> split at h3 <;> omega
/-- All black pixels lie in a box. -/
def InBx (f : Int → Int → Bool) (W H : Nat) : Prop := ∀ x y, f x y = true → 0 ≤ x ∧ x < W ∧ 0 ≤ y ∧ y < H
theorem InBx.edge {W H : Nat} {e : Edg} (hb : InBx f W H) (h : EOk f e) : 0 ≤ e.x ∧ e.x ≤ W ∧ 0 ≤ e.y ∧ e.y ≤ H := by
  obtain ⟨x, y, k⟩ := e
  obtain ⟨h1, h2⟩ := h
  dsimp only at h1 h2 ⊢
  have hk : k = 0 ∨ k = 1 ∨ k = 2 ∨ k = 3 := by omega
  rcases hk with rfl | rfl | rfl | rfl <;> simp [canB, canQ] at h2 <;> have h := hb _ _ h2.1 <;> omega
theorem cyc {W H : Nat} (hb : InBx f W H) {e : Edg} (h : EOk f e) : ∃ n, 0 < n ∧ n ≤ (H + 1) * (W + 1) * 4 ∧ itr f n e = e := by
  obtain ⟨i, j, h1, h2, h3⟩ := pigeon ((H + 1) * (W + 1) * 4) (fun i => ((itr f i e).y.toNat * (W + 1) + (itr f i e).x.toNat) * 4 + (itr f i e).k) fun i _ => by
    have hi := itr_ok h i
    have hx := hb.edge hi
    have hk := hi.1
    have e1 : (itr f i e).y.toNat + 1 ≤ H + 1 := by omega
    have e2 := Nat.mul_le_mul_right (W + 1) e1
    rw [Nat.succ_mul] at e2
    (try dsimp only)
    omega
  have hi := itr_ok h i
  have hj := itr_ok h j
  have hxi := hb.edge hi
  have hxj := hb.edge hj
  have hki := hi.1
  have hkj := hj.1
  (try dsimp only at h3)
  have e1 : (itr f i e).k = (itr f j e).k := by omega
  have e2 : (itr f i e).y.toNat * (W + 1) + (itr f i e).x.toNat = (itr f j e).y.toNat * (W + 1) + (itr f j e).x.toNat := by omega
  have e3 : (itr f i e).y.toNat = (itr f j e).y.toNat := by
    have d1 : ((itr f i e).y.toNat * (W + 1) + (itr f i e).x.toNat) / (W + 1) = (itr f i e).y.toNat := by
      rw [Nat.mul_comm, Nat.mul_add_div (by omega), Nat.div_eq_of_lt (by omega), Nat.add_zero]
    have d2 : ((itr f j e).y.toNat * (W + 1) + (itr f j e).x.toNat) / (W + 1) = (itr f j e).y.toNat := by
      rw [Nat.mul_comm, Nat.mul_add_div (by omega), Nat.div_eq_of_lt (by omega), Nat.add_zero]
    rw [← d1, ← d2, e2]
  rw [e3] at e2
  have e4 : (itr f i e).x.toNat = (itr f j e).x.toNat := by omega
  have he : itr f i e = itr f j e := by
    generalize itr f i e = a at *
    generalize itr f j e = b at *
    obtain ⟨x, y, k⟩ := a
    obtain ⟨x', y', k'⟩ := b
    simp only [Edg.mk.injEq] at *
    omega
  refine ⟨j - i, by omega, by omega, ?_⟩
  rw [show j = (j - i) + i by omega, itr_add] at he
  exact (itr_inj h (itr_ok h _) i he).symm
/-- n is how long a border is that begins with a step. -/
def Per (f : Int → Int → Bool) (e : Edg) (n : Nat) : Prop := 0 < n ∧ itr f n e = e ∧ ∀ i, 0 < i → i < n → itr f i e ≠ e
theorem leastP (p : Nat → Prop) [DecidablePred p] : ∀ n, p n → ∃ m, m ≤ n ∧ p m ∧ ∀ i, i < m → ¬ p i
  | 0, h => ⟨0, Nat.le_refl _, h, fun i hi => by omega⟩
  | n + 1, h => by
    by_cases hn : ∃ m, m ≤ n ∧ p m
    · obtain ⟨m, h1, h2⟩ := hn
      have : ∀ k m, m ≤ k → p m → ∃ m', m' ≤ m ∧ p m' ∧ ∀ i, i < m' → ¬ p i := by
        intro k
        induction k with
        | zero => intro m hm hp; exact ⟨m, Nat.le_refl _, hp, fun i hi => by omega⟩
        | succ k ih =>
          intro m hm hp
          by_cases hq : ∃ i, i < m ∧ p i
          · obtain ⟨i, hi, hpi⟩ := hq
            obtain ⟨m', q1, q2, q3⟩ := ih i (by omega) hpi
            exact ⟨m', by omega, q2, q3⟩
          · exact ⟨m, Nat.le_refl _, hp, fun i hi h => hq ⟨i, hi, h⟩⟩
      obtain ⟨m', q1, q2, q3⟩ := this n m h1 h2
      exact ⟨m', by omega, q2, q3⟩
    · exact ⟨n + 1, Nat.le_refl _, h, fun i hi h => hn ⟨i, by omega, h⟩⟩
def per (f : Int → Int → Bool) (e : Edg) : Nat := ((List.range 1200).find? fun n => decide (itr f (n + 1) e = e)).getD 0 + 1
theorem per_of {W H : Nat} (hb : InBx f W H) (hW : W ≤ 16) (hH : H ≤ 16) {e : Edg} (h : EOk f e) : Per f e (per f e) ∧ per f e ≤ 1200 := by
  obtain ⟨n, h1, h2, h3⟩ := cyc hb h
  have hn : n ≤ 1156 := by
    have := Nat.mul_le_mul (show H + 1 ≤ 17 by omega) (show W + 1 ≤ 17 by omega)
    omega
  obtain ⟨m, q1, q2, q3⟩ := leastP (fun n => itr f (n + 1) e = e) (n - 1) (by show itr f (n - 1 + 1) e = e; rw [show n - 1 + 1 = n by omega]; exact h3)
  have hf : (List.range 1200).find? (fun n => decide (itr f (n + 1) e = e)) = some m := by
    rw [List.find?_range_eq_some]
    exact ⟨by simpa using q2, List.mem_range.2 (by omega), fun j hj => by simpa using q3 j hj⟩
  have hp : per f e = m + 1 := by unfold per; rw [hf]; rfl
  rw [hp]
  refine ⟨⟨by omega, q2, fun i h0 hi he => q3 (i - 1) (by omega) ?_⟩, by omega⟩
  show itr f (i - 1 + 1) e = e
  rw [show i - 1 + 1 = i by omega]
  exact he
end

def stE (W k : Nat) : Edg := ⟨((k % W : Nat) : Int), ((k / W : Nat) : Int), 0⟩
def inOrb (f : Int → Int → Bool) (e e' : Edg) : Bool := (List.range (per f e)).any fun i => decide (itr f i e = e')
def doneB (f : Int → Int → Bool) (W : Nat) (js : List Nat) (e : Edg) : Bool := js.any fun j => inOrb f (stE W j) e
def isSt (f : Int → Int → Bool) (W k : Nat) : Bool := canB f (stE W k).x (stE W k).y 0
/-- The first of k pixels at which borders begin. -/
def bTo (f : Int → Int → Bool) (W : Nat) : Nat → List Nat
  | 0 => []
  | k + 1 => if isSt f W k && !doneB f W (bTo f W k) (stE W k) then bTo f W k ++ [k] else bTo f W k
section
variable {f : Int → Int → Bool} {W H : Nat}
theorem inOrb_true {e e' : Edg} : inOrb f e e' = true ↔ ∃ i, i < per f e ∧ itr f i e = e' := by
  unfold inOrb
  simp [List.any_eq_true]
theorem doneB_true {js : List Nat} {e : Edg} : doneB f W js e = true ↔ ∃ j, j ∈ js ∧ inOrb f (stE W j) e = true := by
  unfold doneB
  simp [List.any_eq_true]
theorem isSt_ok {k : Nat} (h : isSt f W k = true) : EOk f (stE W k) := ⟨by show 0 < 4; omega, h⟩
theorem bTo_mem : ∀ {k j : Nat}, j ∈ bTo f W k → j < k ∧ isSt f W j = true
  | 0, j, h => by cases h
  | k + 1, j, h => by
    unfold bTo at h
    split at h
    · rename_i hc
      rw [Bool.and_eq_true] at hc
      rcases List.mem_append.1 h with h | h
      · have := bTo_mem h; exact ⟨by omega, this.2⟩
      · simp only [List.mem_singleton] at h
        subst h
        exact ⟨by omega, hc.1⟩
    · have := bTo_mem h; exact ⟨by omega, this.2⟩
theorem bTo_grow {k j : Nat} (h : j ∈ bTo f W k) : ∀ m, j ∈ bTo f W (k + m)
  | 0 => h
  | m + 1 => by
    show j ∈ bTo f W (k + m + 1)
    unfold bTo
    split
    · exact List.mem_append_left _ (bTo_grow h m)
    · exact bTo_grow h m
theorem bTo_cover : ∀ {k j : Nat}, j < k → isSt f W j = true → j ∈ bTo f W k ∨ doneB f W (bTo f W k) (stE W j) = true
  | 0, j, h, _ => by omega
  | k + 1, j, h, hs => by
    by_cases e : j = k
    · subst e
      unfold bTo
      split
      · exact .inl (by simp)
      · rename_i hc
        rw [hs, Bool.true_and, Bool.not_eq_true, Bool.not_eq_false'] at hc
        exact .inr hc
    · rcases bTo_cover (show j < k by omega) hs with h1 | h1
      · exact .inl (bTo_grow h1 1)
      · right
        obtain ⟨i, h2, h3⟩ := doneB_true.1 h1
        exact doneB_true.2 ⟨i, bTo_grow h2 1, h3⟩
/-- Borders that begin later do not begin on an earlier one. -/
theorem bTo_apart : ∀ (k : Nat), (bTo f W k).Pairwise fun i j => i < j ∧ inOrb f (stE W i) (stE W j) = false
  | 0 => List.Pairwise.nil
  | k + 1 => by
    unfold bTo
    split
    · rename_i hc
      rw [Bool.and_eq_true] at hc
      rw [List.pairwise_append]
      refine ⟨bTo_apart k, List.pairwise_singleton _ _, fun a ha b hb => ?_⟩
      simp only [List.mem_singleton] at hb
      subst hb
      refine ⟨(bTo_mem ha).1, ?_⟩
      cases h : inOrb f (stE W a) (stE W b)
      · rfl
      · have := doneB_true.2 ⟨a, ha, h⟩
        rw [this] at hc
        simp at hc
    · exact bTo_apart k
theorem Per.mul {e : Edg} {n : Nat} (h : Per f e n) : ∀ m, itr f (m * n) e = e
  | 0 => by rw [Nat.zero_mul]; rfl
  | m + 1 => by rw [Nat.succ_mul, itr_add, h.mul m, h.2.1]
theorem Per.mod {e : Edg} {n : Nat} (h : Per f e n) (i : Nat) : itr f i e = itr f (i % n) e := by
  have := Nat.div_add_mod i n
  conv => lhs; rw [← this, Nat.mul_comm, itr_add, h.mul]
theorem inOrb_of (hb : InBx f W H) (hW : W ≤ 16) (hH : H ≤ 16) {e : Edg} (h : EOk f e) (i : Nat) : inOrb f e (itr f i e) = true := by
  have hp := (per_of hb hW hH h).1
  exact inOrb_true.2 ⟨i % per f e, Nat.mod_lt _ hp.1, (hp.mod i).symm⟩
theorem inOrb_symm (hb : InBx f W H) (hW : W ≤ 16) (hH : H ≤ 16) {e e' : Edg} (h : EOk f e) (ho : inOrb f e e' = true) : inOrb f e' e = true := by
  obtain ⟨i, h1, rfl⟩ := inOrb_true.1 ho
  have hp := (per_of hb hW hH h).1
  have := inOrb_of hb hW hH (itr_ok h i) (per f e - i)
  rw [← itr_add, show i + (per f e - i) = per f e by omega, hp.2.1] at this
  exact this
theorem inOrb_trans (hb : InBx f W H) (hW : W ≤ 16) (hH : H ≤ 16) {e e' e'' : Edg} (h : EOk f e) (ho : inOrb f e e' = true) (ho' : inOrb f e' e'' = true) : inOrb f e e'' = true := by
  obtain ⟨i, h1, rfl⟩ := inOrb_true.1 ho
  obtain ⟨j, h2, rfl⟩ := inOrb_true.1 ho'
  rw [← itr_add]
  exact inOrb_of hb hW hH h _
theorem Per.inj {e : Edg} {n : Nat} (he : EOk f e) (h : Per f e n) {i j : Nat} (hi : i < n) (hj : j < n) (hij : itr f i e = itr f j e) : i = j := by
  rcases Nat.lt_trichotomy i j with h1 | h1 | h1
  · exfalso
    rw [show j = (j - i) + i by omega, itr_add] at hij
    exact h.2.2 (j - i) (by omega) (by omega) (itr_inj he (itr_ok he _) i hij).symm
  · exact h1
  · exfalso
    rw [show i = (i - j) + j by omega, itr_add] at hij
    exact h.2.2 (i - j) (by omega) (by omega) (itr_inj (itr_ok he _) he j hij)
def sumI (g : Nat → Int) : Nat → Int
  | 0 => 0
  | n + 1 => sumI g n + g n
theorem itr_x (e : Edg) : ∀ n, (itr f n e).x = e.x + sumI (fun i => dX (itr f i e).k) n
  | 0 => by simp [itr, sumI]
  | n + 1 => by show (itr f n e).x + dX (itr f n e).k = _; rw [itr_x e n]; simp only [sumI]; omega
theorem itr_y (e : Edg) : ∀ n, (itr f n e).y = e.y + sumI (fun i => dY (itr f i e).k) n
  | 0 => by simp [itr, sumI]
  | n + 1 => by show (itr f n e).y + dY (itr f n e).k = _; rw [itr_y e n]; simp only [sumI]; omega
theorem sumI_le (g : Nat → Int) (h : ∀ i, g i ≤ 0) : ∀ n, sumI g n ≤ 0
  | 0 => Int.le_refl _
  | n + 1 => by have := sumI_le g h n; have := h n; simp only [sumI]; omega
theorem sumI_lt (g : Nat → Int) (h : ∀ i, g i ≤ 0) : ∀ n i, i < n → g i < 0 → sumI g n < 0
  | 0, i, hi, _ => by omega
  | n + 1, i, hi, hg => by
    simp only [sumI]
    by_cases e : i = n
    · subst e; have := sumI_le g h i; omega
    · have := sumI_lt g h n i (by omega) hg; have := h n; omega
theorem sumI_const (g : Nat → Int) (c : Int) (h : ∀ i, g i = c) : ∀ n, sumI g n = n * c
  | 0 => by simp [sumI]
  | n + 1 => by simp only [sumI]; rw [sumI_const g c h n, h n, Int.natCast_succ, Int.add_mul, Int.one_mul]
theorem trnQ_near : ∀ (a b c d : Bool) (k : Fin 4), (k.val = 1 ∨ k.val = 3) → (trnQ a b c d k = 1 ∨ trnQ a b c d k = 3) → trnQ a b c d k = k.val := by decide
/-- Every border goes to the right somewhere. -/
theorem orb_right (hb : InBx f W H) {e : Edg} (h : EOk f e) : ∃ i, (itr f i e).k = 0 := by
  obtain ⟨n, h1, h2, h3⟩ := cyc hb h
  by_cases hr : ∃ i, (itr f i e).k = 0
  · exact hr
  · exfalso
    have hn0 : ∀ i, (itr f i e).k ≠ 0 := fun i hi => hr ⟨i, hi⟩
    have hk : ∀ i, (itr f i e).k < 4 := fun i => (itr_ok h i).1
    have hle : ∀ i, dX (itr f i e).k ≤ 0 := fun i => by
      have := hn0 i
      unfold dX
      rw [if_neg this]
      split <;> omega
    have hx := itr_x (f := f) e n
    rw [h3] at hx
    have hn2 : ∀ i, i < n → (itr f i e).k ≠ 2 := fun i hi h2 => by
      have := sumI_lt _ hle n i hi (by show dX (itr f i e).k < 0; rw [h2]; decide)
      omega
    have hn2' : ∀ i, (itr f i e).k ≠ 2 := fun i => by
      have hm : ∀ m, itr f (m * n) e = e := fun m => by
        induction m with
        | zero => rw [Nat.zero_mul]; rfl
        | succ m ih => rw [Nat.succ_mul, itr_add, ih, h3]
      have := Nat.div_add_mod i n
      rw [← this, Nat.mul_comm, itr_add, hm]
      exact hn2 _ (Nat.mod_lt _ h1)
    have h13 : ∀ i, (itr f i e).k = 1 ∨ (itr f i e).k = 3 := fun i => by
      have := hn0 i; have := hn2' i; have := hk i; omega
    have hc : ∀ i, (itr f i e).k = e.k := fun i => by
      induction i with
      | zero => rfl
      | succ i ih =>
        rw [← ih]
        exact trnQ_near _ _ _ _ ⟨(itr f i e).k, hk i⟩ (h13 i) (h13 (i + 1))
    have hy := itr_y (f := f) e n
    rw [h3, sumI_const _ (dY e.k) (fun i => by rw [hc i])] at hy
    have h0 := h13 0
    have hz : (n : Int) * dY e.k = 0 := by omega
    rcases Int.mul_eq_zero.1 hz with h5 | h5
    · omega
    · rcases h0 with h0 | h0
      · have : e.k = 1 := h0
        rw [this] at h5; cases h5
      · have : e.k = 3 := h0
        rw [this] at h5; cases h5
theorem stE_of (hb : InBx f W H) {e : Edg} (h : EOk f e) (hk : e.k = 0) : ∃ j, j < H * W ∧ stE W j = e ∧ isSt f W j = true := by
  obtain ⟨x, y, k⟩ := e
  dsimp only at hk
  subst hk
  have h2 := h.2
  simp only [canB, canQ, if_true, Bool.and_eq_true] at h2
  have hx := hb _ _ h2.1
  obtain ⟨X, rfl⟩ := Int.eq_ofNat_of_zero_le hx.1
  obtain ⟨Y, rfl⟩ := Int.eq_ofNat_of_zero_le hx.2.2.1
  have hX : X < W := by omega
  have hY : Y < H := by omega
  have e1 : (Y * W + X) % W = X := by rw [Nat.mul_comm, Nat.mul_add_mod, Nat.mod_eq_of_lt hX]
  have e2 : (Y * W + X) / W = Y := by rw [Nat.mul_comm, Nat.mul_add_div (by omega), Nat.div_eq_of_lt hX, Nat.add_zero]
  have hs : stE W (Y * W + X) = ⟨(X : Int), (Y : Int), 0⟩ := by unfold stE; rw [e1, e2]
  refine ⟨Y * W + X, ?_, hs, ?_⟩
  · have := Nat.mul_le_mul_right W hY
    rw [Nat.succ_mul] at this
    omega
  · unfold isSt; rw [hs]; exact h.2
/-- Each step is on one of the borders. -/
theorem all_done (hb : InBx f W H) (hW : W ≤ 16) (hH : H ≤ 16) {e : Edg} (h : EOk f e) : doneB f W (bTo f W (H * W)) e = true := by
  obtain ⟨i, hi⟩ := orb_right hb h
  obtain ⟨j, h1, h2, h3⟩ := stE_of hb (itr_ok h i) hi
  have hje := isSt_ok h3
  have hback : inOrb f (stE W j) e = true := by
    rw [h2]
    exact inOrb_symm hb hW hH h (inOrb_of hb hW hH h i)
  rcases bTo_cover h1 h3 with h4 | h4
  · exact doneB_true.2 ⟨j, h4, hback⟩
  · obtain ⟨m, h5, h6⟩ := doneB_true.1 h4
    exact doneB_true.2 ⟨m, h5, inOrb_trans hb hW hH (isSt_ok (bTo_mem h5).2) h6 hback⟩
/-- The steps of all borders. -/
def orbL (f : Int → Int → Bool) (e : Edg) : List Edg := (List.range (per f e)).map fun i => itr f i e
def edgL (f : Int → Int → Bool) (W H : Nat) : List Edg := (bTo f W (H * W)).flatMap fun j => orbL f (stE W j)
theorem mem_orbL {e e' : Edg} : e' ∈ orbL f e ↔ inOrb f e e' = true := by
  rw [inOrb_true]; unfold orbL; simp
theorem mem_edgL (hb : InBx f W H) (hW : W ≤ 16) (hH : H ≤ 16) {e : Edg} : e ∈ edgL f W H ↔ EOk f e := by
  unfold edgL
  rw [List.mem_flatMap]
  constructor
  · rintro ⟨j, h1, h2⟩
    obtain ⟨i, h3, rfl⟩ := inOrb_true.1 (mem_orbL.1 h2)
    exact itr_ok (isSt_ok (bTo_mem h1).2) i
  · intro h
    obtain ⟨j, h1, h2⟩ := doneB_true.1 (all_done hb hW hH h)
    exact ⟨j, h1, mem_orbL.2 h2⟩
theorem orbL_nodup (hb : InBx f W H) (hW : W ≤ 16) (hH : H ≤ 16) {e : Edg} (h : EOk f e) : (orbL f e).Nodup := by
  have hp := (per_of hb hW hH h).1
  unfold orbL
  unfold List.Nodup
  rw [List.pairwise_map]
  refine List.Pairwise.imp_of_mem ?_ List.nodup_range
  intro i j hi hj hne he
  exact hne (hp.inj h (List.mem_range.1 hi) (List.mem_range.1 hj) he)
theorem edgL_nodup (hb : InBx f W H) (hW : W ≤ 16) (hH : H ≤ 16) : (edgL f W H).Nodup := by
  unfold edgL
  have hj : ∀ j, j ∈ bTo f W (H * W) → EOk f (stE W j) := fun j h => isSt_ok (bTo_mem h).2
  have hp := bTo_apart (f := f) (W := W) (H * W)
  generalize bTo f W (H * W) = js at *
  induction js with
  | nil => exact List.nodup_nil
  | cons j js ih =>
    rw [List.flatMap_cons, List.nodup_append]
    obtain ⟨h1, h2⟩ := List.pairwise_cons.1 hp
    refine ⟨orbL_nodup hb hW hH (hj j (by simp)), ih (fun i hi => hj i (List.mem_cons_of_mem _ hi)) h2, ?_⟩
    intro a ha b hbm hab
    subst hab
    obtain ⟨i, hi, hbi⟩ := List.mem_flatMap.1 hbm
    have e1 := h1 i hi
    have e2 := inOrb_trans hb hW hH (hj j (by simp)) (mem_orbL.1 ha) (inOrb_symm hb hW hH (hj i (List.mem_cons_of_mem _ hi)) (mem_orbL.1 hbi))
    rw [e1.2] at e2
    cases e2
end
end Go.Proofs.Ytelaoimcaidoiaa
