/- Plain: the numbers of the parts that are reached from spots, one after another; what is reached from around a picture. -/
import Derived.Test.YtelaoimcaidoiaaReach
namespace Go.Proofs.Ytelaoimcaidoiaa
open Go.RowKit
/-- One spot more: it has a number, or it and all that is reached from it get the next one. -/
def LabS (R : Int × Int → Bool) (N : Int × Int → List (Int × Int)) (s : Int × Int) (f0 : Int × Int → Nat) (n0 : Nat) (f : Int × Int → Nat) (n : Nat) : Prop :=
  (0 < f0 s ∧ (∀ q, f q = f0 q) ∧ n = n0) ∨ (f0 s = 0 ∧ n = n0 + 1 ∧ ∀ q, (Rch R N [s] q → f q = n0 + 1) ∧ (¬ Rch R N [s] q → f q = f0 q))
/-- The numbers behind the first k of the spots. -/
def LabK (R : Int × Int → Bool) (N : Int × Int → List (Int × Int)) (S : List (Int × Int)) : Nat → (Int × Int → Nat) → Nat → Prop
  | 0, f, n => (∀ q, f q = 0) ∧ n = 0
  | k + 1, f, n => ∃ f0 n0, LabK R N S k f0 n0 ∧ LabS R N (S.getD k (0, 0)) f0 n0 f n
section
variable {R : Int × Int → Bool} {N N' : Int × Int → List (Int × Int)} {S : List (Int × Int)}
theorem LabK.init : LabK R N S 0 (fun _ => 0) 0 := ⟨fun _ => rfl, rfl⟩
theorem LabK.skip {k n : Nat} {f : Int × Int → Nat} (h : LabK R N S k f n) (hs : 0 < f (S.getD k (0, 0))) : LabK R N S (k + 1) f n := ⟨f, n, h, .inl ⟨hs, fun _ => rfl, rfl⟩⟩
theorem LabK.add {k n : Nat} {f f' : Int × Int → Nat} (h : LabK R N S k f n) (hs : f (S.getD k (0, 0)) = 0) (hf : ∀ q, (Rch R N [S.getD k (0, 0)] q → f' q = n + 1) ∧ (¬ Rch R N [S.getD k (0, 0)] q → f' q = f q)) : LabK R N S (k + 1) f' (n + 1) := ⟨f, n, h, .inr ⟨hs, rfl, hf⟩⟩
theorem LabK.ex (R : Int × Int → Bool) (N : Int × Int → List (Int × Int)) (S : List (Int × Int)) : ∀ k, ∃ f n, LabK R N S k f n
  | 0 => ⟨_, _, LabK.init⟩
  | k + 1 => by
    obtain ⟨f, n, h⟩ := LabK.ex R N S k
    by_cases hs : 0 < f (S.getD k (0, 0))
    · exact ⟨f, n, h.skip hs⟩
    · refine ⟨fun q => @ite _ (Rch R N [S.getD k (0, 0)] q) (Classical.propDecidable _) (n + 1) (f q), n + 1, h.add (by omega) fun q => ⟨fun hq => ?_, fun hq => ?_⟩⟩
      · exact @if_pos _ (Classical.propDecidable _) hq _ _ _
      · exact @if_neg _ (Classical.propDecidable _) hq _ _ _
theorem LabK.uniq : ∀ {k : Nat} {f f' : Int × Int → Nat} {n n' : Nat}, LabK R N S k f n → LabK R N S k f' n' → (∀ q, f q = f' q) ∧ n = n'
  | 0, _, _, _, _, ⟨h1, h2⟩, ⟨h3, h4⟩ => ⟨fun q => by rw [h1, h3], by rw [h2, h4]⟩
  | k + 1, _, _, _, _, ⟨f0, n0, h1, h2⟩, ⟨f1, n1, h3, h4⟩ => by
    obtain ⟨e1, e2⟩ := LabK.uniq h1 h3
    rcases h2 with ⟨a1, a2, a3⟩ | ⟨a1, a2, a3⟩ <;> rcases h4 with ⟨b1, b2, b3⟩ | ⟨b1, b2, b3⟩
    · exact ⟨fun q => by rw [a2, b2, e1], by omega⟩
    · rw [e1] at a1; omega
    · rw [e1] at a1; omega
    · refine ⟨fun q => ?_, by omega⟩
      by_cases hq : Rch R N [S.getD k (0, 0)] q
      · rw [(a3 q).1 hq, (b3 q).1 hq, e2]
      · rw [(a3 q).2 hq, (b3 q).2 hq, e1]
theorem LabK.congr1 (hN : ∀ p q, q ∈ N p ↔ q ∈ N' p) : ∀ {k : Nat} {f : Int × Int → Nat} {n : Nat}, LabK R N S k f n → LabK R N' S k f n
  | 0, _, _, h => h
  | k + 1, _, _, ⟨f0, n0, h1, h2⟩ => ⟨f0, n0, h1.congr1 hN, by
    rcases h2 with h2 | ⟨a1, a2, a3⟩
    · exact .inl h2
    · exact .inr ⟨a1, a2, fun q => ⟨fun hq => (a3 q).1 ((Rch.congr hN).2 hq), fun hq => (a3 q).2 fun h => hq ((Rch.congr hN).1 h)⟩⟩⟩
theorem LabK.few : ∀ {k : Nat} {f : Int × Int → Nat} {n : Nat}, LabK R N S k f n → n ≤ k ∧ ∀ q, f q ≤ n
  | 0, _, _, ⟨h1, h2⟩ => ⟨by omega, fun q => by rw [h1]; omega⟩
  | k + 1, _, _, ⟨f0, n0, h1, h2⟩ => by
    obtain ⟨e1, e2⟩ := h1.few
    rcases h2 with ⟨a1, a2, a3⟩ | ⟨a1, a2, a3⟩
    · exact ⟨by omega, fun q => by rw [a2]; have := e2 q; omega⟩
    · refine ⟨by omega, fun q => ?_⟩
      by_cases hq : Rch R N [S.getD k (0, 0)] q
      · rw [(a3 q).1 hq]; omega
      · rw [(a3 q).2 hq]; have := e2 q; omega
theorem LabK.right : ∀ {k : Nat} {f : Int × Int → Nat} {n : Nat}, LabK R N S k f n → ∀ q, 0 < f q → R q = true
  | 0, _, _, ⟨h1, _⟩, q, hq => by rw [h1] at hq; omega
  | k + 1, _, _, ⟨f0, n0, h1, h2⟩, q, hq => by
    rcases h2 with ⟨a1, a2, a3⟩ | ⟨a1, a2, a3⟩
    · rw [a2] at hq
      exact h1.right q hq
    · by_cases hr : Rch R N [S.getD k (0, 0)] q
      · exact hr.right
      · rw [(a3 q).2 hr] at hq
        exact h1.right q hq
/-- Each of the first k spots that are right has a number. -/
theorem LabK.all : ∀ {k : Nat} {f : Int × Int → Nat} {n : Nat}, LabK R N S k f n → ∀ j, j < k → R (S.getD j (0, 0)) = true → 0 < f (S.getD j (0, 0))
  | 0, _, _, _, j, hj, _ => by omega
  | k + 1, _, _, ⟨f0, n0, h1, h2⟩, j, hj, hR => by
    rcases h2 with ⟨a1, a2, a3⟩ | ⟨a1, a2, a3⟩
    · rw [a2]
      by_cases e : j = k
      · subst e; exact a1
      · exact h1.all j (by omega) hR
    · by_cases hr : Rch R N [S.getD k (0, 0)] (S.getD j (0, 0))
      · rw [(a3 _).1 hr]; omega
      · rw [(a3 _).2 hr]
        by_cases e : j = k
        · subst e
          exact absurd (Rch.start (by simp) hR) hr
        · exact h1.all j (by omega) hR
theorem LabK.mem {f : Int × Int → Nat} {n : Nat} (h : LabK R N S S.length f n) (hS : ∀ q, R q = true → q ∈ S) (q : Int × Int) : 0 < f q ↔ R q = true :=
  ⟨h.right q, fun hq => by
    obtain ⟨j, hj, e⟩ := mem_getD (hS q hq)
    have := h.all j hj (by rw [e]; exact hq)
    rwa [e] at this⟩
end
/-- From the edge's white spots, inside; from a corner outside: the same, inside. -/
theorem frame_in {W H : Nat} (hW : 1 ≤ W) (hH : 1 ≤ H) {w : Int × Int → Bool} {big : Int × Int → Bool} {N : Int × Int → List (Int × Int)} {E : List (Int × Int)}
    (hw : ∀ p, w p = true → 0 ≤ p.1 ∧ p.1 < W ∧ 0 ≤ p.2 ∧ p.2 < H)
    (hin : ∀ p : Int × Int, (0 ≤ p.1 ∧ p.1 < W ∧ 0 ≤ p.2 ∧ p.2 < H) → big p = w p)
    (hbig : ∀ p : Int × Int, big p = true → -1 ≤ p.1 ∧ p.1 ≤ W ∧ -1 ≤ p.2 ∧ p.2 ≤ H)
    (hfr : ∀ p : Int × Int, (-1 ≤ p.1 ∧ p.1 ≤ W ∧ -1 ≤ p.2 ∧ p.2 ≤ H) → ¬ (0 ≤ p.1 ∧ p.1 < W ∧ 0 ≤ p.2 ∧ p.2 < H) → big p = true)
    (hnear : ∀ p q, q ∈ N p → p.1 - 1 ≤ q.1 ∧ q.1 ≤ p.1 + 1 ∧ p.2 - 1 ≤ q.2 ∧ q.2 ≤ p.2 + 1)
    (hn4 : ∀ p : Int × Int, (p.1, p.2 - 1) ∈ N p ∧ (p.1 - 1, p.2) ∈ N p ∧ (p.1 + 1, p.2) ∈ N p ∧ (p.1, p.2 + 1) ∈ N p)
    (hE : ∀ p : Int × Int, p ∈ E ↔ (0 ≤ p.1 ∧ p.1 < W ∧ 0 ≤ p.2 ∧ p.2 < H) ∧ (p.1 = 0 ∨ p.2 = 0 ∨ p.1 = W - 1 ∨ p.2 = H - 1))
    (p : Int × Int) (hp : 0 ≤ p.1 ∧ p.1 < W ∧ 0 ≤ p.2 ∧ p.2 < H) : Rch w N E p ↔ Rch big N [(-1, -1)] p := by
  have start : Rch big N [(-1, -1)] (-1, -1) := .start (by simp) (hfr _ (by dsimp only; omega) (by dsimp only; omega))
  have stepx : ∀ (y : Int), (y = -1 ∨ y = H) → Rch big N [(-1, -1)] (-1, y) → ∀ k : Nat, k ≤ W + 1 → Rch big N [(-1, -1)] (-1 + (k : Int), y) := by
    intro y hy h0 k
    induction k with
    | zero => intro _; simpa using h0
    | succ k ih =>
      intro hk
      have h1 := ih (by omega)
      refine .step h1 ?_ (hfr _ (by dsimp only; omega) (by dsimp only; omega))
      have := (hn4 (-1 + (k : Int), y)).2.2.1
      have e : ((-1 + (k : Int)) + 1, y) = (-1 + ((k + 1 : Nat) : Int), y) := by rw [Prod.mk.injEq]; exact ⟨by omega, by omega⟩
      rwa [e] at this
  have stepy : ∀ (x : Int), (x = -1 ∨ x = W) → Rch big N [(-1, -1)] (x, -1) → ∀ k : Nat, k ≤ H + 1 → Rch big N [(-1, -1)] (x, -1 + (k : Int)) := by
    intro x hx h0 k
    induction k with
    | zero => intro _; simpa using h0
    | succ k ih =>
      intro hk
      have h1 := ih (by omega)
      refine .step h1 ?_ (hfr _ (by dsimp only; omega) (by dsimp only; omega))
      have := (hn4 (x, -1 + (k : Int))).2.2.2
      have e : (x, (-1 + (k : Int)) + 1) = (x, -1 + ((k + 1 : Nat) : Int)) := by rw [Prod.mk.injEq]; exact ⟨by omega, by omega⟩
      rwa [e] at this
  have left : ∀ y : Int, -1 ≤ y → y ≤ H → Rch big N [(-1, -1)] (-1, y) := fun y h1 h2 => by
    have := stepy (-1) (.inl rfl) start (y + 1).toNat (by omega)
    have e : (-1 : Int) + ((y + 1).toNat : Int) = y := by omega
    rwa [e] at this
  have top : ∀ x : Int, -1 ≤ x → x ≤ W → Rch big N [(-1, -1)] (x, -1) := fun x h1 h2 => by
    have := stepx (-1) (.inl rfl) start (x + 1).toNat (by omega)
    have e : (-1 : Int) + ((x + 1).toNat : Int) = x := by omega
    rwa [e] at this
  have bottom : ∀ x : Int, -1 ≤ x → x ≤ W → Rch big N [(-1, -1)] (x, H) := fun x h1 h2 => by
    have := stepx H (.inr rfl) (left H (by omega) (by omega)) (x + 1).toNat (by omega)
    have e : (-1 : Int) + ((x + 1).toNat : Int) = x := by omega
    rwa [e] at this
  have right : ∀ y : Int, -1 ≤ y → y ≤ H → Rch big N [(-1, -1)] (W, y) := fun y h1 h2 => by
    have := stepy W (.inr rfl) (top W (by omega) (by omega)) (y + 1).toNat (by omega)
    have e : (-1 : Int) + ((y + 1).toNat : Int) = y := by omega
    rwa [e] at this
  constructor
  · intro h
    clear hp
    induction h with
    | @start p h1 h2 =>
      have h3 := hw p h2
      obtain ⟨x, y⟩ := p
      simp only at h3
      have hb : big (x, y) = true := by rw [hin _ h3]; exact h2
      rcases ((hE _).1 h1).2 with e | e | e | e <;> simp only at e
      · refine .step (left y (by omega) (by omega)) ?_ hb
        have := (hn4 (-1, y)).2.2.1
        have e2 : ((-1 : Int) + 1, y) = (x, y) := by rw [e]; rfl
        rwa [e2] at this
      · refine .step (top x (by omega) (by omega)) ?_ hb
        have := (hn4 (x, -1)).2.2.2
        have e2 : (x, (-1 : Int) + 1) = (x, y) := by rw [e]; rfl
        rwa [e2] at this
      · refine .step (right y (by omega) (by omega)) ?_ hb
        have := (hn4 ((W : Int), y)).2.1
        have e2 : ((W : Int) - 1, y) = (x, y) := by rw [e]
        rwa [e2] at this
      · refine .step (bottom x (by omega) (by omega)) ?_ hb
        have := (hn4 (x, (H : Int))).1
        have e2 : (x, (H : Int) - 1) = (x, y) := by rw [e]
        rwa [e2] at this
    | @step p q h1 h2 h3 ih => exact .step ih h2 (by rw [hin _ (hw _ h3)]; exact h3)
  · intro h
    have key : ∀ q, Rch big N [(-1, -1)] q → (0 ≤ q.1 ∧ q.1 < W ∧ 0 ≤ q.2 ∧ q.2 < H) → Rch w N E q := by
      intro q hq
      induction hq with
      | @start q h1 h2 => intro h; simp at h1; subst h1; simp at h
      | @step p q h1 h2 h3 ih =>
        intro hq
        by_cases hp : 0 ≤ p.1 ∧ p.1 < W ∧ 0 ≤ p.2 ∧ p.2 < H
        · exact .step (ih hp) h2 (by rw [← hin _ hq]; exact h3)
        · refine .start ((hE _).2 ⟨hq, ?_⟩) (by rw [← hin _ hq]; exact h3)
          have := hnear _ _ h2
          have := hbig _ h1.right
          omega
    exact key p h hp
end Go.Proofs.Ytelaoimcaidoiaa
