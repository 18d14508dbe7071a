/- FnEuler, plain: parts less holes are told by windows. -/
import Derived.Test.YtelaoimcaidoiaaRdP
namespace Go.Proofs.Ytelaoimcaidoiaa
open Go Go.RowKit
def Covers (R : Int × Int → Bool) (N : Int × Int → List (Int × Int)) (L : List (Int × Int)) : Prop := ∀ q, R q = true → ∃ r, r ∈ L ∧ Rch R N [r] q
def Apart (R : Int × Int → Bool) (N : Int × Int → List (Int × Int)) (L : List (Int × Int)) : Prop := (∀ s, s ∈ L → R s = true) ∧ L.Pairwise fun s t => ¬ Rch R N [s] t
/-- So many parts there are. -/
def Parts (R : Int × Int → Bool) (N : Int × Int → List (Int × Int)) (n : Nat) : Prop := (∀ L, Covers R N L → n ≤ L.length) ∧ (∀ L, Apart R N L → L.length ≤ n) ∧ ∃ L, L.length = n ∧ Covers R N L
theorem Rch.mono1 {R R' : Int × Int → Bool} {N : Int × Int → List (Int × Int)} (h : ∀ p, R p = true → R' p = true) {s p : Int × Int} (hp : Rch R N [s] p) : Rch R' N [s] p :=
  Rch.sub (fun _ h1 h2 => .start h1 (h _ h2)) (fun _ _ _ _ _ h2 => h _ h2) hp
theorem Rch.head1 {R : Int × Int → Bool} {N : Int × Int → List (Int × Int)} {s p : Int × Int} (hp : Rch R N [s] p) : R s = true := by
  induction hp with
  | start h1 h2 => rw [List.mem_singleton.1 h1] at h2; exact h2
  | step _ _ _ ih => exact ih
section
variable {R : Int × Int → Bool} {N : Int × Int → List (Int × Int)} {S : List (Int × Int)}
theorem LabK.sur (hN : ∀ p q, q ∈ N p → p ∈ N q) : ∀ {k : Nat} {f : Int × Int → Nat} {n : Nat}, (∀ j, j < k → R (S.getD j (0, 0)) = true) → LabK R N S k f n → ∀ i, 1 ≤ i → i ≤ n → ∃ q, R q = true ∧ f q = i
  | 0, _, _, _, ⟨_, h2⟩, i, h3, h4 => by omega
  | k + 1, f, n, hS, ⟨f0, n0, h1, h2⟩, i, h3, h4 => by
    rcases h2 with ⟨_, a2, a3⟩ | ⟨a1, a2, a3⟩
    · obtain ⟨q, b1, b2⟩ := LabK.sur hN (fun j hj => hS j (by omega)) h1 i h3 (by omega)
      exact ⟨q, b1, by rw [a2]; exact b2⟩
    · have hs := hS k (by omega)
      by_cases e : i = n0 + 1
      · exact ⟨S.getD k (0, 0), hs, by rw [e]; exact (a3 _).1 (.start (List.mem_singleton.2 rfl) hs)⟩
      · obtain ⟨q, b1, b2⟩ := LabK.sur hN (fun j hj => hS j (by omega)) h1 i h3 (by omega)
        refine ⟨q, b1, ?_⟩
        rw [(a3 q).2 fun hr => ?_, b2]
        obtain ⟨t, ht, -, hft⟩ := LabK.reach hN h1 hr
        rw [List.mem_singleton.1 ht, a1] at hft
        omega
theorem LabK.parts (hN : ∀ p q, q ∈ N p → p ∈ N q) {f : Int × Int → Nat} {n : Nat} (hS : ∀ q, R q = true ↔ q ∈ S) (h : LabK R N S S.length f n) : Parts R N n := by
  have hr : ∀ j, j < S.length → R (S.getD j (0, 0)) = true := fun j hj => (hS _).2 (getD_mem hj)
  have hpos : ∀ q, R q = true → 0 < f q := fun q hq => (h.mem (fun q => (hS q).1) q).2 hq
  have hsur := LabK.sur hN hr h
  have hrange : ((List.range n).map (· + 1)).Nodup := by
    unfold List.Nodup
    rw [List.pairwise_map]
    exact List.nodup_range.imp fun h => by omega
  have hsame : ∀ q q', 0 < f q → f q = f q' → Rch R N [q] q' := fun q q' h1 h2 => by
    obtain ⟨s, b1, b2⟩ := LabK.same h q q' h1 h2
    exact Rch.trans1 (Rch.symm1 hN b1) b2
  refine ⟨fun L hL => ?_, fun L hL => ?_, ?_⟩
  · have := nodup_len ((List.range n).map (· + 1)) (L.map f) hrange fun i hi => by
      obtain ⟨j, hj, rfl⟩ := List.mem_map.1 hi
      have hj := List.mem_range.1 hj
      obtain ⟨q, b1, b2⟩ := hsur (j + 1) (by omega) (by omega)
      obtain ⟨r, b3, b4⟩ := hL q b1
      obtain ⟨t, ht, -, hft⟩ := LabK.reach hN h b4
      rw [List.mem_singleton.1 ht] at hft
      exact List.mem_map.2 ⟨r, b3, by omega⟩
    simpa using this
  · have := nodup_len (L.map f) ((List.range n).map (· + 1)) (by
      unfold List.Nodup
      rw [List.pairwise_map]
      refine List.Pairwise.imp_of_mem ?_ hL.2
      intro s t hs ht hst e
      exact hst (hsame _ _ (hpos _ (hL.1 s hs)) e)) fun i hi => by
      obtain ⟨q, hq, rfl⟩ := List.mem_map.1 hi
      have h1 := hpos q (hL.1 q hq)
      have h2 := h.few.2 q
      exact List.mem_map.2 ⟨f q - 1, List.mem_range.2 (by omega), by omega⟩
    simpa using this
  · refine ⟨(List.range n).map fun i => @dite _ (∃ q, R q = true ∧ f q = i + 1) (Classical.propDecidable _) (fun h => Classical.choose h) fun _ => (0, 0), by simp, fun q hq => ?_⟩
    have h1 := hpos q hq
    have h2 := h.few.2 q
    have hex : ∃ q', R q' = true ∧ f q' = f q - 1 + 1 := ⟨q, hq, by omega⟩
    refine ⟨Classical.choose hex, List.mem_map.2 ⟨f q - 1, List.mem_range.2 (by omega), ?_⟩, ?_⟩
    · exact @dif_pos _ (Classical.propDecidable _) hex _ _ _
    · have h3 := Classical.choose_spec hex
      exact hsame _ _ (by omega) (by omega)
end
/-- Neighbours, told by numbers. -/
theorem nbA_iff (e : Bool) (p q : Int × Int) : q ∈ nbA e p ↔ (p.1 - 1 ≤ q.1 ∧ q.1 ≤ p.1 + 1 ∧ p.2 - 1 ≤ q.2 ∧ q.2 ≤ p.2 + 1) ∧ ¬ (q.1 = p.1 ∧ q.2 = p.2) ∧ (e = true ∨ q.1 = p.1 ∨ q.2 = p.2) := by
  obtain ⟨px, py⟩ := p
  obtain ⟨qx, qy⟩ := q
  cases e
  all_goals
    simp only [nbA, arndL, List.mem_map, List.mem_cons, List.not_mem_nil, or_false, Prod.mk.injEq, if_true, if_false, Bool.false_eq_true, Prod.exists, false_or, true_or, and_true]
    constructor
    · rintro ⟨a, b, h1, h2, h3⟩
      omega
    · intro h
      refine ⟨qx - px, qy - py, ?_, by omega, by omega⟩
      omega
theorem nbA_one {e : Bool} {p q : Int × Int} (h : (q.1 = p.1 ∧ (q.2 = p.2 + 1 ∨ q.2 = p.2 - 1)) ∨ (q.2 = p.2 ∧ (q.1 = p.1 + 1 ∨ q.1 = p.1 - 1))) : q ∈ nbA e p :=
  (nbA_iff e p q).2 ⟨by omega, by omega, .inr (by omega)⟩
theorem nbA_dia {e : Bool} {p q : Int × Int} (he : e = true) (h : p.1 - 1 ≤ q.1 ∧ q.1 ≤ p.1 + 1 ∧ p.2 - 1 ≤ q.2 ∧ q.2 ≤ p.2 + 1) (hn : ¬ (q.1 = p.1 ∧ q.2 = p.2)) : q ∈ nbA e p :=
  (nbA_iff e p q).2 ⟨h, hn, .inl he⟩
/-! A closed way and what it parts. -/
def IsWay (R : Int × Int → Bool) (N : Int × Int → List (Int × Int)) (c : Nat → Int × Int) (n : Nat) : Prop := (∀ i, i ≤ n → R (c i) = true) ∧ ∀ i, i < n → c (i + 1) ∈ N (c i)
theorem Rch.way {R : Int × Int → Bool} {N : Int × Int → List (Int × Int)} {s q : Int × Int} (h : Rch R N [s] q) : ∃ c n, IsWay R N c n ∧ c 0 = s ∧ c n = q := by
  induction h with
  | @start p h1 h2 =>
    have := List.mem_singleton.1 h1
    subst this
    exact ⟨fun _ => p, 0, ⟨fun _ _ => h2, fun i hi => by omega⟩, rfl, rfl⟩
  | @step p q _ h1 h2 ih =>
    obtain ⟨c, n, ⟨a1, a2⟩, a3, a4⟩ := ih
    refine ⟨fun i => if i ≤ n then c i else q, n + 1, ⟨fun i hi => ?_, fun i hi => ?_⟩, ?_, ?_⟩
    · show R (if i ≤ n then c i else q) = true
      split
      · exact a1 i ‹_›
      · exact h2
    · show (if i + 1 ≤ n then c (i + 1) else q) ∈ N (if i ≤ n then c i else q)
      rw [if_pos (show i ≤ n by omega)]
      split
      · exact a2 i (by omega)
      · have e : i = n := by omega
        rw [e, a4]
        exact h1
    · exact a3
    · show (if n + 1 ≤ n then c (n + 1) else q) = q
      rw [if_neg (by omega)]
def xorTo (f : Nat → Bool) : Nat → Bool
  | 0 => false
  | n + 1 => xorTo f n != f n
theorem xorTo_add (f g : Nat → Bool) : ∀ n, (xorTo f n != xorTo g n) = xorTo (fun i => f i != g i) n
  | 0 => rfl
  | n + 1 => by
    show ((xorTo f n != f n) != (xorTo g n != g n)) = (xorTo (fun i => f i != g i) n != (f n != g n))
    rw [← xorTo_add f g n]
    cases xorTo f n <;> cases xorTo g n <;> cases f n <;> cases g n <;> rfl
theorem xorTo_tel (h : Nat → Bool) : ∀ n, xorTo (fun i => h i != h (i + 1)) n = (h 0 != h n)
  | 0 => by show false = _; cases h 0 <;> rfl
  | n + 1 => by
    show (xorTo (fun i => h i != h (i + 1)) n != (h n != h (n + 1))) = _
    rw [xorTo_tel h n]
    cases h 0 <;> cases h n <;> cases h (n + 1) <;> rfl
theorem xorTo_congr {f g : Nat → Bool} : ∀ {n : Nat}, (∀ i, i < n → f i = g i) → xorTo f n = xorTo g n
  | 0, _ => rfl
  | n + 1, h => by
    show (xorTo f n != f n) = (xorTo g n != g n)
    rw [xorTo_congr fun i hi => h i (by omega), h n (by omega)]
theorem xorTo_no {f : Nat → Bool} : ∀ {n : Nat}, (∀ i, i < n → f i = false) → xorTo f n = false
  | 0, _ => rfl
  | n + 1, h => by
    show (xorTo f n != f n) = false
    rw [xorTo_no fun i hi => h i (by omega), h n (by omega)]
    rfl
/-- A step between the row of a spot and the next one, to the right of the spot. -/
def crs (q u v : Int × Int) : Bool := decide ((u.2 = q.2 ∧ v.2 = q.2 + 1 ∧ q.1 < u.1) ∨ (v.2 = q.2 ∧ u.2 = q.2 + 1 ∧ q.1 < v.1))
def rgt (q u : Int × Int) : Bool := decide (u.2 = q.2 ∧ q.1 < u.1)
theorem crs_side {e : Bool} {q q' u v : Int × Int} (hq : q' ∈ nbA (!e) q) (h2 : q'.2 = q.2) (hu1 : u ≠ q) (hu2 : u ≠ q') (hv1 : v ≠ q) (hv2 : v ≠ q') : crs q u v = crs q' u v := by
  rw [nbA_iff] at hq
  obtain ⟨qx, qy⟩ := q
  obtain ⟨rx, ry⟩ := q'
  obtain ⟨ux, uy⟩ := u
  obtain ⟨vx, vy⟩ := v
  simp only [ne_eq, Prod.mk.injEq] at *
  obtain ⟨hq, hq1, -⟩ := hq
  unfold crs
  refine decide_eq_decide.2 ?_
  simp only
  omega
theorem crs_down {e : Bool} {q q' u v : Int × Int} (hq : q' ∈ nbA (!e) q) (hn : v ∈ nbA e u) (h2 : q'.2 = q.2 + 1) (hu1 : u ≠ q) (hu2 : u ≠ q') (hv1 : v ≠ q) (hv2 : v ≠ q') : (crs q u v != crs q' u v) = (rgt q' u != rgt q' v) := by
  rw [nbA_iff] at hq hn
  obtain ⟨qx, qy⟩ := q
  obtain ⟨rx, ry⟩ := q'
  obtain ⟨ux, uy⟩ := u
  obtain ⟨vx, vy⟩ := v
  simp only [ne_eq, Prod.mk.injEq] at *
  obtain ⟨hq, hq1, hq2⟩ := hq
  obtain ⟨hn, hn1, hn2⟩ := hn
  have hd : e = true ∧ rx = qx ∨ (ux = vx ∨ uy = vy) := by
    cases e
    · simp at hn2; omega
    · simp at hq2; exact .inl ⟨rfl, by omega⟩
  cases h3 : crs (qx, qy) (ux, uy) (vx, vy) <;> cases h4 : crs (rx, ry) (ux, uy) (vx, vy) <;> cases h5 : rgt (rx, ry) (ux, uy) <;> cases h6 : rgt (rx, ry) (vx, vy) <;>
    (first
      | rfl
      | (exfalso
         unfold crs at h3 h4
         unfold rgt at h5 h6
         simp only [decide_eq_true_eq, decide_eq_false_iff_not] at h3 h4 h5 h6
         rcases hd with ⟨-, hd⟩ | hd <;> omega))
/-- The curve closed by a spot behind its last one. -/
def closeW (c : Nat → Int × Int) (n : Nat) (p : Int × Int) (i : Nat) : Int × Int := if i ≤ n then c i else if i = n + 1 then p else c 0
theorem jordan {e : Bool} {B w : Int × Int → Bool} {x y : Int} {c : Nat → Int × Int} {n : Nat} {U : Int × Int} (hc : IsWay B (nbA e) c n)
    (hB : ∀ q, B q = true → q.2 < y ∨ q.2 = y ∧ q.1 < x) (hw : ∀ q, w q = true → B q = false ∧ q ≠ (x, y))
    (h : (e = false ∧ c 0 = (x - 1, y) ∧ c n = (x, y - 1) ∧ U = (x - 1, y - 1)) ∨ (e = true ∧ (c 0 = (x - 1, y) ∨ c 0 = (x - 1, y - 1)) ∧ c n = (x + 1, y - 1) ∧ U = (x, y - 1))) :
    ¬ Rch w (nbA (!e)) [U] (x, y + 1) := by
  intro hr
  obtain ⟨k, hk⟩ : ∃ k, k = closeW c n (x, y) := ⟨_, rfl⟩
  have k1 : ∀ i, i ≤ n → k i = c i := fun i hi => by rw [hk]; unfold closeW; rw [if_pos hi]
  have k2 : k (n + 1) = (x, y) := by rw [hk]; unfold closeW; rw [if_neg (by omega), if_pos rfl]
  have k3 : k (n + 2) = c 0 := by rw [hk]; unfold closeW; rw [if_neg (by omega), if_neg (by omega)]
  have kB : ∀ i, i ≤ n + 2 → B (k i) = true ∨ k i = (x, y) := fun i hi => by
    rcases Nat.lt_or_ge n i with h1 | h1
    · rcases Nat.lt_or_ge (n + 1) i with h2 | h2
      · rw [show i = n + 2 by omega, k3]; exact .inl (hc.1 0 (Nat.zero_le _))
      · rw [show i = n + 1 by omega, k2]; exact .inr rfl
    · rw [k1 i h1]; exact .inl (hc.1 i h1)
  have kn : ∀ i, i < n + 2 → k (i + 1) ∈ nbA e (k i) := fun i hi => by
    rcases Nat.lt_or_ge i n with h1 | h1
    · rw [k1 i (by omega), k1 (i + 1) (by omega)]; exact hc.2 i h1
    · rcases Nat.lt_or_ge n i with h2 | h2
      · rw [show i = n + 1 by omega, k2, show n + 1 + 1 = n + 2 from rfl, k3]
        rcases h with ⟨_, h3, _, _⟩ | ⟨he, h3 | h3, _, _⟩
        · rw [h3]; exact nbA_one (by simp only; first | omega | (simp; done) | (simp; omega))
        · rw [h3]; exact nbA_one (by simp only; first | omega | (simp; done) | (simp; omega))
        · rw [h3]; exact nbA_dia he (by simp only; first | omega | (simp; done) | (simp; omega)) (by simp only; first | omega | (simp; done) | (simp; omega))
      · rw [show i = n by omega, k1 n (Nat.le_refl _), k2]
        rcases h with ⟨_, _, h3, _⟩ | ⟨he, _, h3, _⟩
        · rw [h3]; exact nbA_one (by simp only; first | omega | (simp; done) | (simp; omega))
        · rw [h3]; exact nbA_dia he (by simp only; first | omega | (simp; done) | (simp; omega)) (by simp only; first | omega | (simp; done) | (simp; omega))
  have kw : ∀ q i, w q = true → i ≤ n + 2 → k i ≠ q := fun q i hq hi e => by
    obtain ⟨h1, h2⟩ := hw q hq
    rcases kB i hi with h3 | h3
    · rw [e, h1] at h3; cases h3
    · exact h2 (by rw [← e]; exact h3)
  obtain ⟨I, hI⟩ : ∃ I : Int × Int → Bool, I = fun q => xorTo (fun i => crs q (k i) (k (i + 1))) (n + 2) := ⟨_, rfl⟩
  have inv : ∀ q q', w q = true → w q' = true → q' ∈ nbA (!e) q → q'.2 = q.2 + 1 → I q = I q' := fun q q' h1 h2 h3 h4 => by
    have h5 : (I q != I q') = false := by
      rw [hI]
      simp only
      rw [xorTo_add, xorTo_congr (g := fun i => rgt q' (k i) != rgt q' (k (i + 1))) fun i hi => crs_down h3 (kn i hi) h4 (kw q i h1 (by omega)) (kw q' i h2 (by omega)) (kw q _ h1 (by omega)) (kw q' _ h2 (by omega)),
        xorTo_tel (fun i => rgt q' (k i)), k3, k1 0 (Nat.zero_le _)]
      cases rgt q' (c 0) <;> rfl
    revert h5
    cases I q <;> cases I q' <;> simp
  have inv2 : ∀ q q', w q = true → w q' = true → q' ∈ nbA (!e) q → I q = I q' := fun q q' h1 h2 h3 => by
    have h4 := (nbA_iff _ _ _).1 h3
    rcases Int.lt_trichotomy q'.2 q.2 with h5 | h5 | h5
    · exact (inv q' q h2 h1 (nbA_symm _ _ _ h3) (by omega)).symm
    · rw [hI]
      exact xorTo_congr fun i hi => crs_side h3 h5 (kw q i h1 (by omega)) (kw q' i h2 (by omega)) (kw q _ h1 (by omega)) (kw q' _ h2 (by omega))
    · exact inv q q' h1 h2 h3 (by omega)
  have all : ∀ q, Rch w (nbA (!e)) [U] q → I q = I U := fun q hq => by
    induction hq with
    | start h1 h2 => rw [List.mem_singleton.1 h1]
    | step h0 h1 h2 ih => rw [← ih]; exact (inv2 _ _ h0.right h2 h1).symm
  have hD : I (x, y + 1) = false := by
    rw [hI]
    refine xorTo_no fun i hi => ?_
    refine decide_eq_false ?_
    have r : ∀ j, j ≤ n + 2 → (k j).2 ≤ y := fun j hj => by
      rcases kB j hj with h1 | h1
      · have := hB _ h1; omega
      · rw [h1]; exact Int.le_refl _
    have r1 := r i (by omega)
    have r2 := r (i + 1) (by omega)
    simp only
    omega
  have hU : I U = true := by
    rw [hI]
    show ((xorTo _ n != crs U (k n) (k (n + 1))) != crs U (k (n + 1)) (k (n + 2))) = true
    rw [xorTo_no fun i hi => ?_, k1 n (Nat.le_refl _), k2, k3]
    · rcases h with ⟨_, h3, h4, h5⟩ | ⟨_, h3 | h3, h4, h5⟩
      all_goals
        rw [h3, h4, h5]
        have e1 : ∀ a b c d : Bool, a = true → b = false → ((false != a) != b) = true := by intro a b c d h1 h2; rw [h1, h2]; rfl
        refine e1 _ _ true true (decide_eq_true ?_) (decide_eq_false ?_)
        · simp only; first | omega | (simp; done) | (simp; omega)
        · simp only; first | omega | (simp; done) | (simp; omega)
    · refine decide_eq_false ?_
      rw [k1 i (by omega), k1 (i + 1) (by omega)]
      have b1 := hB _ (hc.1 i (by omega))
      have b2 := hB _ (hc.1 (i + 1) (by omega))
      have b3 := (nbA_iff _ _ _).1 (hc.2 i hi)
      rcases h with ⟨h1, _, _, h5⟩ | ⟨h1, _, _, h5⟩
      · rw [h5]
        rw [h1] at b3
        simp only [Bool.false_eq_true, false_or] at b3 ⊢
        omega
      · rw [h5]
        simp only
        omega
  have := all _ hr
  rw [hD, hU] at this
  cases this
end Go.Proofs.Ytelaoimcaidoiaa

/- FnEuler, plain: a pixel more, in reading order; the sum over windows. -/
namespace Go.Proofs.Ytelaoimcaidoiaa
open Go Go.RowKit
/-! Sums. -/
def sI (f : Nat → Int) : Nat → Int
  | 0 => 0
  | n + 1 => sI f n + f n
theorem sI_congr {f g : Nat → Int} : ∀ {n : Nat}, (∀ i, i < n → f i = g i) → sI f n = sI g n
  | 0, _ => rfl
  | n + 1, h => by
    show sI f n + f n = sI g n + g n
    rw [sI_congr fun i hi => h i (by omega), h n (by omega)]
theorem sI_zero {f : Nat → Int} : ∀ {n : Nat}, (∀ i, i < n → f i = 0) → sI f n = 0
  | 0, _ => rfl
  | n + 1, h => by
    show sI f n + f n = 0
    rw [sI_zero fun i hi => h i (by omega), h n (by omega)]
    rfl
theorem sI_neg (f : Nat → Int) : ∀ n, sI (fun i => - f i) n = - sI f n
  | 0 => rfl
  | n + 1 => by
    show sI (fun i => - f i) n + - f n = - (sI f n + f n)
    rw [sI_neg f n]
    omega
theorem sI_add (f g : Nat → Int) : ∀ n, sI (fun i => f i + g i) n = sI f n + sI g n
  | 0 => rfl
  | n + 1 => by
    show sI (fun i => f i + g i) n + (f n + g n) = sI f n + f n + (sI g n + g n)
    rw [sI_add f g n]
    omega
theorem sI_ends (f : Nat → Int) : ∀ n, sI f (n + 2) = f 0 + sI (fun i => f (i + 1)) n + f (n + 1)
  | 0 => by show (0 + f 0) + f 1 = f 0 + 0 + f 1; omega
  | n + 1 => by
    show sI f (n + 2) + f (n + 2) = f 0 + (sI (fun i => f (i + 1)) n + f (n + 1)) + f (n + 2)
    rw [sI_ends f n]
    omega
theorem sI_one {f g : Nat → Int} {a : Nat} : ∀ {n : Nat}, a < n → (∀ i, i < n → i ≠ a → f i = g i) → sI f n = sI g n + (f a - g a)
  | 0, h, _ => by omega
  | n + 1, h, h2 => by
    show sI f n + f n = sI g n + g n + (f a - g a)
    by_cases e : a = n
    · subst e
      rw [sI_congr fun i hi => h2 i (by omega) (by omega)]
      omega
    · rw [sI_one (show a < n by omega) fun i hi hn => h2 i (by omega) hn, h2 n (by omega) (by omega)]
      omega
theorem sI_two {f g : Nat → Int} {a n : Nat} (h : a + 1 < n) (h2 : ∀ i, i < n → i ≠ a → i ≠ a + 1 → f i = g i) : sI f n = sI g n + (f a - g a) + (f (a + 1) - g (a + 1)) := by
  have h3 := sI_one (f := f) (g := fun i => if i = a then g a else f i) (a := a) (show a < n by omega) fun i _ hn => by simp only [if_neg hn]
  have h4 := sI_one (f := fun i => if i = a then g a else f i) (g := g) (a := a + 1) h fun i hi hn => by
    by_cases e : i = a
    · simp only [if_pos e]; rw [e]
    · simp only [if_neg e]; exact h2 i hi e hn
  simp only [if_true] at h3
  rw [if_neg (show ¬ a + 1 = a by omega)] at h4
  rw [h3, h4]
  omega
/-! Windows. -/
def one1 (a b c d : Bool) : Int := if oneB a + oneB b + oneB c + oneB d = 1 then 1 else 0
  where oneB (b : Bool) : Nat := if b then 1 else 0
def three1 (a b c d : Bool) : Int := if one1.oneB a + one1.oneB b + one1.oneB c + one1.oneB d = 3 then 1 else 0
def diag1 (a b c d : Bool) : Int := if one1.oneB a + one1.oneB b + one1.oneB c + one1.oneB d = 2 ∧ a = d then 1 else 0
def win (e a b c d : Bool) : Int := one1 a b c d - three1 a b c d + (if e then -2 else 2) * diag1 a b c d
def winA (e : Bool) (B : Int × Int → Bool) (i j : Nat) : Int := win e (B ((j : Int) - 1, (i : Int) - 1)) (B ((j : Int), (i : Int) - 1)) (B ((j : Int) - 1, (i : Int))) (B ((j : Int), (i : Int)))
def chi (e : Bool) (W H : Nat) (B : Int × Int → Bool) : Int := sI (fun i => sI (fun j => winA e B i j) (W + 1)) (H + 1)
/-- What a pixel more adds, by those around that are before it. -/
def dlt (e nw n ne w : Bool) : Int := (win e nw n w true - win e nw n w false) + (win e n ne true false - win e n ne false false) + ((win e w true false false - win e w false false false) + (win e true false false false - win e false false false false))
theorem dlt_none (e nw ne : Bool) (h : e = true → nw = false ∧ ne = false) : dlt e nw false ne false = 4 := by
  cases e
  · cases nw <;> cases ne <;> decide
  · obtain ⟨rfl, rfl⟩ := h rfl; decide
/-- Two groups of black ones around. -/
def twoG (e nw n ne w : Bool) : Bool := if e then !n && ne && (w || nw) else w && n && !nw
theorem dlt_two (e nw n ne w : Bool) (h : twoG e nw n ne w = true) : dlt e nw n ne w = -4 := by
  revert h
  cases e <;> cases nw <;> cases n <;> cases ne <;> cases w <;> decide
theorem dlt_one (e nw n ne w : Bool) (h : twoG e nw n ne w = false) (h2 : n = true ∨ w = true ∨ (e = true ∧ (nw = true ∨ ne = true))) : dlt e nw n ne w = 0 := by
  revert h h2
  cases e <;> cases nw <;> cases n <;> cases ne <;> cases w <;> decide
theorem chi_add {e : Bool} {W H : Nat} {B : Int × Int → Bool} {x y : Nat} (hx : x < W) (hy : y < H) (hB : ∀ q, B q = true → q.2 < y ∨ q.2 = y ∧ q.1 < x) :
    chi e W H (fun q => B q || decide (q = ((x : Int), (y : Int)))) = chi e W H B + dlt e (B ((x : Int) - 1, (y : Int) - 1)) (B ((x : Int), (y : Int) - 1)) (B ((x : Int) + 1, (y : Int) - 1)) (B ((x : Int) - 1, (y : Int))) := by
  obtain ⟨C, hC⟩ : ∃ C : Int × Int → Bool, C = fun q => B q || decide (q = ((x : Int), (y : Int))) := ⟨_, rfl⟩
  rw [← hC]
  have hn : ∀ q : Int × Int, ¬ (q.2 < y ∨ q.2 = y ∧ q.1 < x) → B q = false := fun q h => by
    cases hq : B q
    · rfl
    · exact absurd (hB q hq) h
  have h1 : C ((x : Int), (y : Int)) = true := by rw [hC]; simp
  have h2 : ∀ u v : Int, ¬ (u = x ∧ v = y) → C (u, v) = B (u, v) := fun u v h => by
    rw [hC]
    simp only [Prod.mk.injEq, decide_eq_false h, Bool.or_false]
  have h3 : ∀ i j : Nat, ¬ ((j = x ∨ j = x + 1) ∧ (i = y ∨ i = y + 1)) → winA e C i j = winA e B i j := fun i j h => by
    unfold winA
    rw [h2 _ _ (by omega), h2 _ _ (by omega), h2 _ _ (by omega), h2 _ _ (by omega)]
  have z0 := hn ((x : Int), (y : Int)) (by simp only; first | omega | (simp; done) | (simp; omega))
  have z1 := hn ((x : Int) + 1, (y : Int)) (by simp only; first | omega | (simp; done) | (simp; omega))
  have z2 := hn ((x : Int) - 1, (y : Int) + 1) (by simp only; first | omega | (simp; done) | (simp; omega))
  have z3 := hn ((x : Int), (y : Int) + 1) (by simp only; first | omega | (simp; done) | (simp; omega))
  have z4 := hn ((x : Int) + 1, (y : Int) + 1) (by simp only; first | omega | (simp; done) | (simp; omega))
  have c1 := h2 ((x : Int) - 1) ((y : Int) - 1) (by omega)
  have c2 := h2 (x : Int) ((y : Int) - 1) (by omega)
  have c3 := h2 ((x : Int) + 1) ((y : Int) - 1) (by omega)
  have c4 := h2 ((x : Int) - 1) (y : Int) (by omega)
  have c5 := h2 ((x : Int) + 1) (y : Int) (by omega)
  have c6 := h2 ((x : Int) - 1) ((y : Int) + 1) (by omega)
  have c7 := h2 (x : Int) ((y : Int) + 1) (by omega)
  have c8 := h2 ((x : Int) + 1) ((y : Int) + 1) (by omega)
  have s1 : (((x + 1 : Nat) : Int)) - 1 = x := by omega
  have s2 : (((y + 1 : Nat) : Int)) - 1 = y := by omega
  have s3 : ((x + 1 : Nat) : Int) = (x : Int) + 1 := by omega
  have s4 : ((y + 1 : Nat) : Int) = (y : Int) + 1 := by omega
  unfold chi
  rw [sI_two (f := fun i => sI (fun j => winA e C i j) (W + 1)) (g := fun i => sI (fun j => winA e B i j) (W + 1)) (a := y) (by omega) fun i _ a1 a2 => sI_congr fun j _ => h3 i j (by omega),
    sI_two (f := fun j => winA e C y j) (g := fun j => winA e B y j) (a := x) (by omega) fun j _ a1 a2 => h3 y j (by omega),
    sI_two (f := fun j => winA e C (y + 1) j) (g := fun j => winA e B (y + 1) j) (a := x) (by omega) fun j _ a1 a2 => h3 (y + 1) j (by omega)]
  have w1 : winA e C y x - winA e B y x = win e (B ((x : Int) - 1, (y : Int) - 1)) (B ((x : Int), (y : Int) - 1)) (B ((x : Int) - 1, (y : Int))) true - win e (B ((x : Int) - 1, (y : Int) - 1)) (B ((x : Int), (y : Int) - 1)) (B ((x : Int) - 1, (y : Int))) false := by
    unfold winA
    rw [c1, c2, c4, h1, z0]
  have w2 : winA e C y (x + 1) - winA e B y (x + 1) = win e (B ((x : Int), (y : Int) - 1)) (B ((x : Int) + 1, (y : Int) - 1)) true false - win e (B ((x : Int), (y : Int) - 1)) (B ((x : Int) + 1, (y : Int) - 1)) false false := by
    unfold winA
    rw [s1, s3, c2, c3, h1, c5, z0, z1]
  have w3 : winA e C (y + 1) x - winA e B (y + 1) x = win e (B ((x : Int) - 1, (y : Int))) true false false - win e (B ((x : Int) - 1, (y : Int))) false false false := by
    unfold winA
    rw [s2, s4, c4, h1, c6, c7, z0, z2, z3]
  have w4 : winA e C (y + 1) (x + 1) - winA e B (y + 1) (x + 1) = win e true false false false - win e false false false false := by
    unfold winA
    rw [s1, s2, s3, s4, h1, c5, c7, c8, z0, z1, z3, z4]
  unfold dlt
  rw [← w1, ← w2, ← w3, ← w4]
  omega
/-! White, within a frame. -/
def whiteF (W H : Nat) (B : Int × Int → Bool) (q : Int × Int) : Bool := decide (-1 ≤ q.1 ∧ q.1 ≤ W ∧ -1 ≤ q.2 ∧ q.2 ≤ H) && !B q
def Good (e : Bool) (W H : Nat) (B : Int × Int → Bool) : Prop := ∃ LB LW, Covers B (nbA e) LB ∧ Apart (whiteF W H B) (nbA (!e)) LW ∧ 4 * ((LB.length : Int) - LW.length + 1) ≤ chi e W H B
theorem apart_drop {R : Int × Int → Bool} {N : Int × Int → List (Int × Int)} (hN : ∀ p q, q ∈ N p → p ∈ N q) (p : Int × Int) : ∀ {L : List (Int × Int)}, Apart R N L → ∃ L', Apart R N L' ∧ (∀ t, t ∈ L' → t ∈ L ∧ ¬ Rch R N [p] t) ∧ L.length ≤ L'.length + 1
  | [], _ => ⟨[], ⟨by simp, List.Pairwise.nil⟩, by simp, by simp⟩
  | s :: L, ⟨h1, h2⟩ => by
    obtain ⟨h3, h4⟩ := List.pairwise_cons.1 h2
    have h5 : Apart R N L := ⟨fun t ht => h1 t (List.mem_cons_of_mem _ ht), h4⟩
    by_cases hs : Rch R N [p] s
    · exact ⟨L, h5, fun t ht => ⟨List.mem_cons_of_mem _ ht, fun hp => h3 t ht (Rch.trans1 (Rch.symm1 hN hs) hp)⟩, by simp⟩
    · obtain ⟨L', a1, a2, a3⟩ := apart_drop hN p h5
      refine ⟨s :: L', ⟨fun t ht => ?_, List.pairwise_cons.2 ⟨fun t ht => h3 t (a2 t ht).1, a1.2⟩⟩, fun t ht => ?_, by simp; omega⟩
      · rcases List.mem_cons.1 ht with rfl | ht
        · exact h1 _ (List.mem_cons_self)
        · exact a1.1 t ht
      · rcases List.mem_cons.1 ht with rfl | ht
        · exact ⟨List.mem_cons_self, hs⟩
        · exact ⟨List.mem_cons_of_mem _ (a2 t ht).1, (a2 t ht).2⟩
theorem good_add {e : Bool} {W H : Nat} {B : Int × Int → Bool} {x y : Nat} (hx : x < W) (hy : y < H) (hbox : ∀ q, B q = true → 0 ≤ q.1 ∧ q.1 < W ∧ 0 ≤ q.2 ∧ q.2 < H)
    (hB : ∀ q, B q = true → q.2 < y ∨ q.2 = y ∧ q.1 < x) (h : Good e W H B) : Good e W H (fun q => B q || decide (q = ((x : Int), (y : Int)))) := by
  obtain ⟨LB, LW, g1, g2, g3⟩ := h
  have hchi := chi_add (e := e) hx hy hB
  obtain ⟨C, hC⟩ : ∃ C : Int × Int → Bool, C = fun q => B q || decide (q = ((x : Int), (y : Int))) := ⟨_, rfl⟩
  rw [← hC] at hchi ⊢
  obtain ⟨p, hp⟩ : ∃ p : Int × Int, p = ((x : Int), (y : Int)) := ⟨_, rfl⟩
  have cp : C p = true := by rw [hC, hp]; simp
  have cb : ∀ q, B q = true → C q = true := fun q hq => by rw [hC]; simp [hq]
  have co : ∀ q, C q = true → B q = true ∨ q = p := fun q hq => by
    rw [hC] at hq
    simp only [Bool.or_eq_true, decide_eq_true_eq] at hq
    rw [hp]; exact hq
  have hsym := nbA_symm e
  have hsym' := nbA_symm (!e)
  have bp : B p = false := by
    cases hq : B p
    · rfl
    · have := hB p hq; rw [hp] at this; simp only at this; omega
  have nB : ∀ q : Int × Int, ¬ (q.2 < y ∨ q.2 = y ∧ q.1 < x) → B q = false := fun q h => by
    cases hq : B q
    · rfl
    · exact absurd (hB q hq) h
  have wI : ∀ q, whiteF W H C q = true → whiteF W H B q = true := fun q hq => by
    unfold whiteF at hq ⊢
    cases hb : B q
    · rw [Bool.and_eq_true] at hq ⊢
      exact ⟨hq.1, rfl⟩
    · rw [cb q hb] at hq; simp at hq
  have wp : whiteF W H B p = true := by
    unfold whiteF
    rw [bp, hp]
    simp
    omega
  have wmk : ∀ q : Int × Int, (-1 ≤ q.1 ∧ q.1 ≤ W ∧ -1 ≤ q.2 ∧ q.2 ≤ H) → B q = false → q ≠ p → whiteF W H C q = true := fun q h1 h2 h3 => by
    unfold whiteF
    rw [decide_eq_true h1, hC]
    simp only [h2, Bool.false_or, Bool.true_and, Bool.not_eq_true', decide_eq_false_iff_not]
    rw [hp] at h3; exact h3
  have wno : ∀ q, whiteF W H C q = true → B q = false ∧ q ≠ ((x : Int), (y : Int)) := fun q hq => by
    unfold whiteF at hq
    rw [Bool.and_eq_true] at hq
    have h2 := hq.2
    cases hb : B q
    · refine ⟨rfl, ?_⟩
      rintro rfl
      rw [← hp, cp] at h2
      cases h2
    · rw [cb q hb] at h2; cases h2
  obtain ⟨LK, k1, k2, k3⟩ := apart_drop hsym' p g2
  have addW : ∀ q L, whiteF W H C q = true → q ∈ nbA (!e) p → Apart (whiteF W H C) (nbA (!e)) L → (∀ t, t ∈ L → ¬ Rch (whiteF W H C) (nbA (!e)) [q] t) → Apart (whiteF W H C) (nbA (!e)) (q :: L) := fun q L h1 h2 h3 h4 =>
    ⟨fun t ht => (List.mem_cons.1 ht).elim (fun e => by rw [e]; exact h1) (h3.1 t), List.pairwise_cons.2 ⟨h4, h3.2⟩⟩
  have far : ∀ q, whiteF W H C q = true → q ∈ nbA (!e) p → ∀ t, t ∈ LK → ¬ Rch (whiteF W H C) (nbA (!e)) [q] t := fun q h1 h2 t ht hr =>
    (k2 t ht).2 (Rch.trans1 (.step (.start (List.mem_singleton.2 rfl) wp) h2 (wI q h1)) (Rch.mono1 wI hr))
  have keep : Apart (whiteF W H C) (nbA (!e)) LK := ⟨fun t ht => by
    have h1 := k1.1 t ht
    unfold whiteF at h1
    rw [Bool.and_eq_true] at h1
    refine wmk t (of_decide_eq_true h1.1) (by have := h1.2; cases hb : B t; rfl; rw [hb] at this; cases this) ?_
    rintro rfl
    exact (k2 _ ht).2 (.start (List.mem_singleton.2 rfl) wp), k1.2.imp fun h hr => h (Rch.mono1 wI hr)⟩
  have dW : whiteF W H C ((x : Int), (y : Int) + 1) = true := wmk _ (by simp only; first | omega | (simp; done) | (simp; omega)) (nB _ (by simp only; first | omega | (simp; done) | (simp; omega))) (by rw [hp]; simp only [ne_eq, Prod.mk.injEq]; omega)
  have dN : ((x : Int), (y : Int) + 1) ∈ nbA (!e) p := nbA_one (by rw [hp]; simp only; first | omega | (simp; done) | (simp; omega))
  have WD := addW _ LK dW dN keep (far _ dW dN)
  have lenD : (((x : Int), (y : Int) + 1) :: LK).length = LK.length + 1 := rfl
  -- a black neighbour: p is reached from it
  have cov : ∀ X, B X = true → p ∈ nbA e X → Covers C (nbA e) LB := fun X hX hn q hq => by
    rcases co q hq with hq | rfl
    · obtain ⟨r, r1, r2⟩ := g1 q hq
      exact ⟨r, r1, Rch.mono1 cb r2⟩
    · obtain ⟨r, r1, r2⟩ := g1 X hX
      exact ⟨r, r1, .step (Rch.mono1 cb r2) hn cp⟩
  by_cases h2 : twoG e (B ((x : Int) - 1, (y : Int) - 1)) (B ((x : Int), (y : Int) - 1)) (B ((x : Int) + 1, (y : Int) - 1)) (B ((x : Int) - 1, (y : Int))) = true
  · rw [dlt_two _ _ _ _ _ h2] at hchi
    obtain ⟨X, Y, U, x1, y1, x2, y2, u1, u2, hU⟩ : ∃ X Y U : Int × Int, B X = true ∧ B Y = true ∧ p ∈ nbA e X ∧ p ∈ nbA e Y ∧ whiteF W H C U = true ∧ U ∈ nbA (!e) p ∧
        ((e = false ∧ X = ((x : Int) - 1, (y : Int)) ∧ Y = ((x : Int), (y : Int) - 1) ∧ U = ((x : Int) - 1, (y : Int) - 1)) ∨ (e = true ∧ (X = ((x : Int) - 1, (y : Int)) ∨ X = ((x : Int) - 1, (y : Int) - 1)) ∧ Y = ((x : Int) + 1, (y : Int) - 1) ∧ U = ((x : Int), (y : Int) - 1))) := by
      unfold twoG at h2
      cases e
      · simp only [Bool.false_eq_true, if_false, Bool.and_eq_true, Bool.not_eq_true'] at h2
        obtain ⟨⟨h3, h4⟩, h5⟩ := h2
        have b1 := hbox _ h3
        have b2 := hbox _ h4
        simp only at b1 b2
        exact ⟨_, _, _, h3, h4, nbA_one (by rw [hp]; simp only; first | omega | (simp; done) | (simp; omega)), nbA_one (by rw [hp]; simp only; first | omega | (simp; done) | (simp; omega)), wmk _ (by simp only; first | omega | (simp; done) | (simp; omega)) h5 (by rw [hp]; simp only [ne_eq, Prod.mk.injEq]; omega), nbA_dia rfl (by rw [hp]; simp only; first | omega | (simp; done) | (simp; omega)) (by rw [hp]; simp only; first | omega | (simp; done) | (simp; omega)), .inl ⟨rfl, rfl, rfl, rfl⟩⟩
      · simp only [if_true, Bool.and_eq_true, Bool.not_eq_true', Bool.or_eq_true] at h2
        obtain ⟨⟨h3, h4⟩, h5⟩ := h2
        have b2 := hbox _ h4
        simp only at b2
        have w1 := wmk ((x : Int), (y : Int) - 1) (by simp only; first | omega | (simp; done) | (simp; omega)) h3 (by rw [hp]; simp only [ne_eq, Prod.mk.injEq]; omega)
        rcases h5 with h5 | h5
        · exact ⟨_, _, _, h5, h4, nbA_one (by rw [hp]; simp only; first | omega | (simp; done) | (simp; omega)), nbA_dia rfl (by rw [hp]; simp only; omega) (by rw [hp]; simp only; omega), w1, nbA_one (by rw [hp]; simp only; first | omega | (simp; done) | (simp; omega)), .inr ⟨rfl, .inl rfl, rfl, rfl⟩⟩
        · exact ⟨_, _, _, h5, h4, nbA_dia rfl (by rw [hp]; simp only; omega) (by rw [hp]; simp only; omega), nbA_dia rfl (by rw [hp]; simp only; omega) (by rw [hp]; simp only; omega), w1, nbA_one (by rw [hp]; simp only; first | omega | (simp; done) | (simp; omega)), .inr ⟨rfl, .inr rfl, rfl, rfl⟩⟩
    by_cases hr : ∃ r, r ∈ LB ∧ Rch B (nbA e) [r] X ∧ Rch B (nbA e) [r] Y
    · obtain ⟨r, -, r1, r2⟩ := hr
      obtain ⟨c, n, c1, c2, c3⟩ := Rch.way (Rch.trans1 (Rch.symm1 hsym r1) r2)
      have hj := jordan (w := whiteF W H C) (U := U) c1 hB wno (by rw [c2, c3]; exact hU)
      refine ⟨LB, U :: ((x : Int), (y : Int) + 1) :: LK, cov X x1 x2, addW U _ u1 u2 WD fun t ht => ?_, ?_⟩
      · rcases List.mem_cons.1 ht with rfl | ht
        · exact hj
        · exact far U u1 u2 t ht
      · rw [hchi]
        simp only [List.length_cons]
        omega
    · obtain ⟨r1, a1, a2⟩ := g1 X x1
      obtain ⟨r2, b1, b2⟩ := g1 Y y1
      have hne : r1 ≠ r2 := fun h => hr ⟨r1, a1, a2, by rw [h]; exact b2⟩
      have hm : r1 ∈ LB.erase r2 := (List.mem_erase_of_ne hne).2 a1
      have hp1 : Rch C (nbA e) [r1] p := .step (Rch.mono1 cb a2) x2 cp
      refine ⟨LB.erase r2, ((x : Int), (y : Int) + 1) :: LK, fun q hq => ?_, WD, ?_⟩
      · rcases co q hq with hq | rfl
        · obtain ⟨r, d1, d2⟩ := g1 q hq
          by_cases hrr : r = r2
          · subst hrr
            exact ⟨r1, hm, Rch.trans1 (Rch.trans1 hp1 (Rch.symm1 hsym (.step (Rch.mono1 cb b2) y2 cp))) (Rch.mono1 cb d2)⟩
          · exact ⟨r, (List.mem_erase_of_ne hrr).2 d1, Rch.mono1 cb d2⟩
        · exact ⟨r1, hm, hp1⟩
      · have hl : (LB.erase r2).length = LB.length - 1 := List.length_erase_of_mem b1
        have hpos : 0 < LB.length := List.length_pos_of_mem b1
        rw [hchi, hl]
        simp only [List.length_cons]
        omega
  · have h2 := Bool.eq_false_iff.2 h2
    by_cases h3 : ∃ X, B X = true ∧ p ∈ nbA e X
    · obtain ⟨X, x1, x2⟩ := h3
      have hd := dlt_one _ _ _ _ _ h2 (by
        rw [hp, nbA_iff] at x2
        obtain ⟨X1, X2⟩ := X
        have hb := hB _ x1
        simp only at x2 hb
        have hcase : (X1 = x ∧ X2 = (y : Int) - 1) ∨ (X1 = (x : Int) - 1 ∧ X2 = y) ∨ (e = true ∧ ((X1 = (x : Int) - 1 ∧ X2 = (y : Int) - 1) ∨ (X1 = (x : Int) + 1 ∧ X2 = (y : Int) - 1))) := by
          rcases x2.2.2 with h7 | h7
          · have h8 : (X1 = x ∧ X2 = (y : Int) - 1) ∨ (X1 = (x : Int) - 1 ∧ X2 = y) ∨ ((X1 = (x : Int) - 1 ∧ X2 = (y : Int) - 1) ∨ (X1 = (x : Int) + 1 ∧ X2 = (y : Int) - 1)) := by omega
            exact h8.imp_right (Or.imp_right fun h9 => ⟨h7, h9⟩)
          · have h8 : (X1 = x ∧ X2 = (y : Int) - 1) ∨ (X1 = (x : Int) - 1 ∧ X2 = y) := by omega
            exact h8.imp_right .inl
        rcases hcase with ⟨rfl, rfl⟩ | ⟨rfl, rfl⟩ | ⟨he, ⟨rfl, rfl⟩ | ⟨rfl, rfl⟩⟩
        · exact .inl x1
        · exact .inr (.inl x1)
        · exact .inr (.inr ⟨he, .inl x1⟩)
        · exact .inr (.inr ⟨he, .inr x1⟩))
      rw [hd] at hchi
      refine ⟨LB, _, cov X x1 x2, WD, ?_⟩
      rw [hchi, lenD]
      omega
    · have no : ∀ X, p ∈ nbA e X → B X = false := fun X hX => by
        cases hb : B X
        · rfl
        · exact absurd ⟨X, hb, hX⟩ h3
      have n1 := no ((x : Int), (y : Int) - 1) (nbA_one (by rw [hp]; simp only; first | omega | (simp; done) | (simp; omega)))
      have n2 := no ((x : Int) - 1, (y : Int)) (nbA_one (by rw [hp]; simp only; first | omega | (simp; done) | (simp; omega)))
      rw [n1, n2, dlt_none _ _ _ fun he => ⟨no _ (nbA_dia he (by rw [hp]; simp only; first | omega | (simp; done) | (simp; omega)) (by rw [hp]; simp only; first | omega | (simp; done) | (simp; omega))), no _ (nbA_dia he (by rw [hp]; simp only; first | omega | (simp; done) | (simp; omega)) (by rw [hp]; simp only; first | omega | (simp; done) | (simp; omega)))⟩] at hchi
      refine ⟨p :: LB, _, fun q hq => ?_, WD, ?_⟩
      · rcases co q hq with hq | rfl
        · obtain ⟨r, r1, r2⟩ := g1 q hq
          exact ⟨r, List.mem_cons_of_mem _ r1, Rch.mono1 cb r2⟩
        · exact ⟨_, List.mem_cons_self, .start (List.mem_singleton.2 rfl) cp⟩
      · rw [hchi, lenD]
        simp only [List.length_cons]
        omega
/-- The pixels ahead of a spot, in reading order. -/
def ahead (B : Int × Int → Bool) (x y : Nat) (q : Int × Int) : Bool := B q && decide (q.2 < y ∨ q.2 = y ∧ q.1 < x)
theorem good_all {e : Bool} {W H : Nat} {B : Int × Int → Bool} (hbox : ∀ q, B q = true → 0 ≤ q.1 ∧ q.1 < W ∧ 0 ≤ q.2 ∧ q.2 < H) : Good e W H B := by
  have h0 : Good e W H (ahead B 0 0) := by
    have hz : ahead B 0 0 = fun _ => false := funext fun q => by
      unfold ahead
      cases hb : B q
      · rfl
      · have := hbox q hb
        rw [decide_eq_false (by omega)]
        rfl
    rw [hz]
    refine ⟨[], [(-1, -1)], fun q hq => by simp at hq, ⟨fun s hs => ?_, List.pairwise_singleton _ _⟩, ?_⟩
    · rw [List.mem_singleton.1 hs]
      unfold whiteF
      rw [decide_eq_true (by simp only; first | omega | (simp; done) | (simp; omega))]
      rfl
    · have : chi e W H (fun _ => false) = 0 := sI_zero fun i _ => sI_zero fun j _ => by
        show win e false false false false = 0
        cases e <;> decide
      rw [this]
      decide
  have hx : ∀ y, y < H → Good e W H (ahead B 0 y) → ∀ x, x ≤ W → Good e W H (ahead B x y) := by
    intro y hy h1 x
    induction x with
    | zero => intro _; exact h1
    | succ x ih =>
      intro hx
      have h2 := ih (by omega)
      cases hb : B ((x : Int), (y : Int))
      · have : ahead B (x + 1) y = ahead B x y := funext fun q => by
          unfold ahead
          by_cases hq : q = ((x : Int), (y : Int))
          · rw [hq, hb]; rfl
          · have : ¬ (q.1 = x ∧ q.2 = y) := fun h => hq (Prod.ext h.1 h.2)
            congr 1
            refine decide_eq_decide.2 ?_
            omega
        rw [this]; exact h2
      · have : ahead B (x + 1) y = fun q => ahead B x y q || decide (q = ((x : Int), (y : Int))) := funext fun q => by
          unfold ahead
          by_cases hq : q = ((x : Int), (y : Int))
          · rw [decide_eq_true hq, hq, hb, Bool.or_true, decide_eq_true (by simp only; first | omega | (simp; done) | (simp; omega))]; rfl
          · have : ¬ (q.1 = x ∧ q.2 = y) := fun h => hq (Prod.ext h.1 h.2)
            rw [decide_eq_false hq, Bool.or_false]
            congr 1
            refine decide_eq_decide.2 ?_
            omega
        rw [this]
        refine good_add (by omega) hy (fun q hq => hbox q ?_) (fun q hq => ?_) h2
        · unfold ahead at hq; exact (Bool.and_eq_true _ _ ▸ hq : _ ∧ _).1
        · unfold ahead at hq; exact of_decide_eq_true (Bool.and_eq_true _ _ ▸ hq : _ ∧ _).2
  have hy : ∀ y, y ≤ H → Good e W H (ahead B 0 y) := by
    intro y
    induction y with
    | zero => intro _; exact h0
    | succ y ih =>
      intro hy
      have h2 := hx y (by omega) (ih (by omega)) W (Nat.le_refl _)
      have : ahead B 0 (y + 1) = ahead B W y := funext fun q => by
        unfold ahead
        cases hb : B q
        · rfl
        · have := hbox q hb
          congr 1
          refine decide_eq_decide.2 ?_
          omega
      rw [this]; exact h2
  have := hy H (Nat.le_refl _)
  have e1 : ahead B 0 H = B := funext fun q => by
    unfold ahead
    cases hb : B q
    · rfl
    · have := hbox q hb
      rw [decide_eq_true (by omega)]
      rfl
  rw [e1] at this
  exact this
end Go.Proofs.Ytelaoimcaidoiaa

/- FnEuler, plain: the other way by the complement; the formula. -/
namespace Go.Proofs.Ytelaoimcaidoiaa
open Go Go.RowKit
theorem rch_map {R R' : Int × Int → Bool} {N : Int × Int → List (Int × Int)} (t : Int × Int → Int × Int) (hR : ∀ p, R p = true → R' (t p) = true) (hN : ∀ p q, q ∈ N p → t q ∈ N (t p)) {s q : Int × Int} (h : Rch R N [s] q) : Rch R' N [t s] (t q) := by
  induction h with
  | start h1 h2 => rw [List.mem_singleton.1 h1] at h2 ⊢; exact .start (List.mem_singleton.2 rfl) (hR _ h2)
  | step _ h1 h2 ih => exact .step ih (hN _ _ h1) (hR _ h2)
theorem nbA_move (e : Bool) (a b : Int) {p q : Int × Int} (h : q ∈ nbA e p) : (q.1 + a, q.2 + b) ∈ nbA e (p.1 + a, p.2 + b) := by
  rw [nbA_iff] at h ⊢
  simp only
  exact ⟨by omega, by omega, h.2.2.imp_right fun h => by omega⟩
theorem apart_cover {R : Int × Int → Bool} {N : Int × Int → List (Int × Int)} (hN : ∀ p q, q ∈ N p → p ∈ N q) {L K : List (Int × Int)} (h : Apart R N L) (hK : Covers R N K) : L.length ≤ K.length := by
  have hex : ∀ q, ∃ r, R q = true → r ∈ K ∧ Rch R N [r] q := fun q => by
    by_cases hq : R q = true
    · obtain ⟨r, h1, h2⟩ := hK q hq
      exact ⟨r, fun _ => ⟨h1, h2⟩⟩
    · exact ⟨q, fun h => absurd h hq⟩
  obtain ⟨f, hf⟩ := Classical.axiomOfChoice hex
  have := nodup_len (L.map f) K (by
    unfold List.Nodup
    rw [List.pairwise_map]
    refine List.Pairwise.imp_of_mem ?_ h.2
    intro s t hs ht hst e
    have h1 := hf s (h.1 s hs)
    have h2 := hf t (h.1 t ht)
    exact hst (Rch.trans1 (Rch.symm1 hN h1.2) (by rw [e]; exact h2.2))) fun q hq => by
    obtain ⟨s, hs, rfl⟩ := List.mem_map.1 hq
    exact (hf s (h.1 s hs)).1
  simpa using this
/-- The white of the frame, moved into a box of its own. -/
def invB (W H : Nat) (B : Int × Int → Bool) (q : Int × Int) : Bool := whiteF W H B (q.1 - 1, q.2 - 1)
theorem invB_at {W H : Nat} {B : Int × Int → Bool} (u v : Int) : invB W H B (u, v) = (decide (0 ≤ u ∧ u ≤ W + 1 ∧ 0 ≤ v ∧ v ≤ H + 1) && !B (u - 1, v - 1)) := by
  unfold invB whiteF
  simp only
  congr 1
  refine decide_eq_decide.2 ?_
  omega
theorem win_not (e a b c d : Bool) : win (!e) (!a) (!b) (!c) (!d) = - win e a b c d := by
  cases e <;> cases a <;> cases b <;> cases c <;> cases d <;> decide
theorem chi_inv {e : Bool} {W H : Nat} {B : Int × Int → Bool} (hbox : ∀ q, B q = true → 0 ≤ q.1 ∧ q.1 < W ∧ 0 ≤ q.2 ∧ q.2 < H) : chi (!e) (W + 2) (H + 2) (invB W H B) = 4 - chi e W H B := by
  have hout : ∀ u v : Int, ¬ (0 ≤ u ∧ u < W ∧ 0 ≤ v ∧ v < H) → B (u, v) = false := fun u v h => by
    cases hb : B (u, v)
    · rfl
    · exact absurd (hbox _ hb) h
  have ring : ∀ u v : Int, (0 ≤ u ∧ u ≤ W + 1 ∧ 0 ≤ v ∧ v ≤ H + 1) → (u = 0 ∨ u = W + 1 ∨ v = 0 ∨ v = H + 1) → invB W H B (u, v) = true := fun u v h h2 => by
    rw [invB_at, decide_eq_true h, hout _ _ (by omega)]; rfl
  have off : ∀ u v : Int, ¬ (0 ≤ u ∧ u ≤ W + 1 ∧ 0 ≤ v ∧ v ≤ H + 1) → invB W H B (u, v) = false := fun u v h => by
    rw [invB_at, decide_eq_false h]; rfl
  have ins : ∀ u v : Int, (0 ≤ u ∧ u ≤ W + 1 ∧ 0 ≤ v ∧ v ≤ H + 1) → invB W H B (u, v) = !B (u - 1, v - 1) := fun u v h => by
    rw [invB_at, decide_eq_true h]; rfl
  obtain ⟨C, hC⟩ : ∃ C, C = invB W H B := ⟨_, rfl⟩
  rw [← hC] at ring off ins ⊢
  obtain ⟨F, hF⟩ : ∃ F : Nat → Int, F = fun i => sI (fun j => winA (!e) C i j) (W + 2 + 1) := ⟨_, rfl⟩
  have top : F 0 = 2 := by
    rw [hF]
    show sI (fun j => winA (!e) C 0 j) (W + 1 + 2) = 2
    rw [sI_ends, sI_zero (n := W + 1) fun j hj => ?_]
    · have a1 : winA (!e) C 0 0 = 1 := by
        unfold winA
        rw [off _ _ (by omega), off _ _ (by omega), off _ _ (by omega), ring _ _ (by omega) (by omega)]
        cases e <;> decide
      have a2 : winA (!e) C 0 (W + 1 + 1) = 1 := by
        unfold winA
        rw [off _ _ (by omega), off _ _ (by omega), ring _ _ (by omega) (by omega), off _ _ (by omega)]
        cases e <;> decide
      rw [a1, a2]; decide
    · unfold winA
      rw [off _ _ (by omega), off _ _ (by omega), ring _ _ (by omega) (by omega), ring _ _ (by omega) (by omega)]
      cases e <;> decide
  have bot : F (H + 1 + 1) = 2 := by
    rw [hF]
    show sI (fun j => winA (!e) C (H + 1 + 1) j) (W + 1 + 2) = 2
    rw [sI_ends, sI_zero (n := W + 1) fun j hj => ?_]
    · have a1 : winA (!e) C (H + 1 + 1) 0 = 1 := by
        unfold winA
        rw [off _ _ (by omega), ring _ _ (by omega) (by omega), off _ _ (by omega), off _ _ (by omega)]
        cases e <;> decide
      have a2 : winA (!e) C (H + 1 + 1) (W + 1 + 1) = 1 := by
        unfold winA
        rw [ring _ _ (by omega) (by omega), off _ _ (by omega), off _ _ (by omega), off _ _ (by omega)]
        cases e <;> decide
      rw [a1, a2]; decide
    · unfold winA
      rw [ring _ _ (by omega) (by omega), ring _ _ (by omega) (by omega), off _ _ (by omega), off _ _ (by omega)]
      cases e <;> decide
  have mid : ∀ i, i < H + 1 → F (i + 1) = - sI (fun j => winA e B i j) (W + 1) := fun i hi => by
    rw [hF]
    show sI (fun j => winA (!e) C (i + 1) j) (W + 1 + 2) = _
    rw [sI_ends, sI_congr (n := W + 1) (g := fun j => - winA e B i j) fun j hj => ?_, sI_neg]
    · have a1 : winA (!e) C (i + 1) 0 = 0 := by
        unfold winA
        rw [off _ _ (by omega), ring _ _ (by omega) (by omega), off _ _ (by omega), ring _ _ (by omega) (by omega)]
        cases e <;> decide
      have a2 : winA (!e) C (i + 1) (W + 1 + 1) = 0 := by
        unfold winA
        rw [ring _ _ (by omega) (by omega), off _ _ (by omega), ring _ _ (by omega) (by omega), off _ _ (by omega)]
        cases e <;> decide
      rw [a1, a2, Int.zero_add, Int.add_zero]
    · unfold winA
      rw [ins _ _ (by omega), ins _ _ (by omega), ins _ _ (by omega), ins _ _ (by omega), win_not,
        show ((j + 1 : Nat) : Int) - 1 - 1 = (j : Int) - 1 by omega, show ((i + 1 : Nat) : Int) - 1 - 1 = (i : Int) - 1 by omega, show ((j + 1 : Nat) : Int) - 1 = (j : Int) by omega, show ((i + 1 : Nat) : Int) - 1 = (i : Int) by omega]
  show sI (fun i => sI (fun j => winA (!e) C i j) (W + 2 + 1)) (H + 1 + 2) = _
  rw [← hF, sI_ends, top, bot, sI_congr (n := H + 1) mid, sI_neg]
  show 2 + -(chi e W H B) + 2 = _
  omega
/-- Parts, less parts of the white around and within, and one: a fourth of the sum over windows. -/
theorem euler_parts {e : Bool} {W H : Nat} {B : Int × Int → Bool} {n m : Nat} (hbox : ∀ q, B q = true → 0 ≤ q.1 ∧ q.1 < W ∧ 0 ≤ q.2 ∧ q.2 < H)
    (hn : Parts B (nbA e) n) (hm : Parts (invB W H B) (nbA (!e)) m) : 4 * ((n : Int) - m + 1) = chi e W H B := by
  have hout : ∀ q : Int × Int, ¬ (0 ≤ q.1 ∧ q.1 < W ∧ 0 ≤ q.2 ∧ q.2 < H) → B q = false := fun q h => by
    cases hb : B q
    · rfl
    · exact absurd (hbox _ hb) h
  obtain ⟨LB, LW, a1, a2, a3⟩ := good_all (e := e) hbox
  have b1 := hn.1 LB a1
  have b2 : LW.length ≤ m := by
    have := hm.2.1 (LW.map fun q => (q.1 + 1, q.2 + 1)) ⟨fun s hs => ?_, ?_⟩
    · simpa using this
    · obtain ⟨t, ht, rfl⟩ := List.mem_map.1 hs
      unfold invB
      simp only [Int.add_sub_cancel]
      exact a2.1 t ht
    · rw [List.pairwise_map]
      refine a2.2.imp fun {s t} h hr => h ?_
      have := rch_map (R' := whiteF W H B) (fun q => (q.1 - 1, q.2 - 1)) (fun p hp => hp) (fun p q h => nbA_move _ (-1) (-1) h) hr
      simpa [Int.add_sub_cancel] using this
  obtain ⟨LB2, LW2, c1, c2, c3⟩ := good_all (e := !e) (W := W + 2) (H := H + 2) (B := invB W H B) (fun q hq => by
    obtain ⟨u, v⟩ := q
    rw [invB_at, Bool.and_eq_true] at hq
    have := of_decide_eq_true hq.1
    simp only
    omega)
  have d1 := hm.1 LB2 c1
  obtain ⟨K, k1, k2⟩ := hn.2.2
  rw [Bool.not_not] at c2
  obtain ⟨R, hR⟩ : ∃ R, R = whiteF (W + 2) (H + 2) (invB W H B) := ⟨_, rfl⟩
  rw [← hR] at c2
  have ring : ∀ u v : Int, (-1 ≤ u ∧ u ≤ W + 2 ∧ -1 ≤ v ∧ v ≤ H + 2) → (u = -1 ∨ u = W + 2 ∨ v = -1 ∨ v = H + 2) → R (u, v) = true := fun u v h h2 => by
    rw [hR]
    unfold whiteF
    rw [decide_eq_true (by simp only; first | omega | (simp; done) | (simp; omega)), invB_at, decide_eq_false (by omega)]
    rfl
  have r0 : Rch R (nbA e) [(-1, -1)] (-1, -1) := .start (List.mem_singleton.2 rfl) (ring _ _ (by omega) (by omega))
  have goX : ∀ (y : Int), (y = -1 ∨ y = H + 2) → Rch R (nbA e) [(-1, -1)] (-1, y) → ∀ k : Nat, k ≤ W + 3 → Rch R (nbA e) [(-1, -1)] (-1 + (k : Int), y) := by
    intro y hy h0 k
    induction k with
    | zero => intro _; simpa using h0
    | succ k ih => intro hk; exact .step (ih (by omega)) (nbA_one (by simp only; first | omega | (simp; done) | (simp; omega))) (ring _ _ (by omega) (by omega))
  have goY : ∀ (x : Int), (x = -1 ∨ x = W + 2) → Rch R (nbA e) [(-1, -1)] (x, -1) → ∀ k : Nat, k ≤ H + 3 → Rch R (nbA e) [(-1, -1)] (x, -1 + (k : Int)) := by
    intro x hx h0 k
    induction k with
    | zero => intro _; simpa using h0
    | succ k ih => intro hk; exact .step (ih (by omega)) (nbA_one (by simp only; first | omega | (simp; done) | (simp; omega))) (ring _ _ (by omega) (by omega))
  have eX : ∀ u : Int, -1 ≤ u → -1 + ((u + 1).toNat : Int) = u := fun u hu => by omega
  have left : ∀ v : Int, -1 ≤ v → v ≤ H + 2 → Rch R (nbA e) [(-1, -1)] (-1, v) := fun v h1 h2 => by
    have := goY (-1) (.inl rfl) r0 (v + 1).toNat (by omega)
    rwa [eX v h1] at this
  have rowT : ∀ u : Int, -1 ≤ u → u ≤ W + 2 → ∀ y : Int, (y = -1 ∨ y = H + 2) → Rch R (nbA e) [(-1, -1)] (u, y) := fun u h1 h2 y hy => by
    have := goX y hy (left y (by omega) (by omega)) (u + 1).toNat (by omega)
    rwa [eX u h1] at this
  have right : ∀ v : Int, -1 ≤ v → v ≤ H + 2 → Rch R (nbA e) [(-1, -1)] ((W : Int) + 2, v) := fun v h1 h2 => by
    have := goY ((W : Int) + 2) (.inr rfl) (rowT _ (by omega) (by omega) (-1) (.inl rfl)) (v + 1).toNat (by omega)
    rwa [eX v h1] at this
  have d2 : LW2.length ≤ n + 1 := by
    have := apart_cover (nbA_symm e) c2 (K := (-1, -1) :: K.map fun q => (q.1 + 1, q.2 + 1)) fun q hq => ?_
    · rw [List.length_cons, List.length_map, k1] at this; exact this
    · obtain ⟨u, v⟩ := q
      have hq1 := hq
      rw [hR] at hq1
      unfold whiteF at hq1
      rw [Bool.and_eq_true, invB_at] at hq1
      have hin := of_decide_eq_true hq1.1
      simp only at hin
      by_cases hc : 0 ≤ u ∧ u ≤ W + 1 ∧ 0 ≤ v ∧ v ≤ H + 1
      · have hb : B (u - 1, v - 1) = true := by
          have := hq1.2
          rw [decide_eq_true hc] at this
          simpa using this
        obtain ⟨r, r1, r2⟩ := k2 _ hb
        refine ⟨(r.1 + 1, r.2 + 1), List.mem_cons_of_mem _ (List.mem_map.2 ⟨r, r1, rfl⟩), ?_⟩
        have := rch_map (R' := R) (fun q => (q.1 + 1, q.2 + 1)) (fun p hp => by
          have hb := hbox p hp
          rw [hR]
          unfold whiteF
          rw [decide_eq_true (by simp only; first | omega | (simp; done) | (simp; omega)), invB_at, decide_eq_true (by omega)]
          simp only [Int.add_sub_cancel]
          rw [show (p.1, p.2) = p from rfl, hp]
          rfl) (fun p q h => nbA_move _ 1 1 h) r2
        simpa [Int.sub_add_cancel] using this
      · refine ⟨(-1, -1), List.mem_cons_self, ?_⟩
        have hc2 : u = -1 ∨ u = W + 2 ∨ v = -1 ∨ v = H + 2 := by omega
        rcases hc2 with rfl | rfl | hv | hv
        · exact left v (by omega) (by omega)
        · exact right v (by omega) (by omega)
        · exact rowT u (by omega) (by omega) v (.inl hv)
        · exact rowT u (by omega) (by omega) v (.inr hv)
  rw [chi_inv hbox] at c3
  omega
end Go.Proofs.Ytelaoimcaidoiaa
