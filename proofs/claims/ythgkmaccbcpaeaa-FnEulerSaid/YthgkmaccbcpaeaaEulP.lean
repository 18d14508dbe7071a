/- FnEuler, plain: parts less holes are told by windows. -/
import Derived.Test.YthgkmaccbcpaeaaRdP
namespace Go.Proofs.Ythgkmaccbcpaeaa
open Go Go.RowKit
def Covers (R : Int × Int → Bool) (N : Int × Int → List (Int × Int)) (L : List (Int × Int)) : Prop := ∀ q, R q = true → ∃ r, r ∈ L ∧ Rch R N [r] q
def Apart (R : Int × Int → Bool) (N : Int × Int → List (Int × Int)) (L : List (Int × Int)) : Prop := (∀ s, s ∈ L → R s = true) ∧ L.Pairwise fun s t => ¬ Rch R N [s] t
/-- So many parts there are. -/
def Parts (R : Int × Int → Bool) (N : Int × Int → List (Int × Int)) (n : Nat) : Prop := (∀ L, Covers R N L → n ≤ L.length) ∧ (∀ L, Apart R N L → L.length ≤ n) ∧ ∃ L, L.length = n ∧ Covers R N L
theorem Rch.mono1 {R R' : Int × Int → Bool} {N : Int × Int → List (Int × Int)} (h : ∀ p, R p = true → R' p = true) {s p : Int × Int} (hp : Rch R N [s] p) : Rch R' N [s] p :=
  Rch.sub (fun _ h1 h2 => .start h1 (h _ h2)) (fun _ _ _ _ _ h2 => h _ h2) hp
theorem Rch.head1 {R : Int × Int → Bool} {N : Int × Int → List (Int × Int)} {s p : Int × Int} (hp : Rch R N [s] p) : R s = true := by
  induction hp with
  | start h1 h2 => rw [List.mem_singleton.1 h1] at h2; exact h2
  | step _ _ _ ih => exact ih
section
variable {R : Int × Int → Bool} {N : Int × Int → List (Int × Int)} {S : List (Int × Int)}
theorem LabK.sur (hN : ∀ p q, q ∈ N p → p ∈ N q) : ∀ {k : Nat} {f : Int × Int → Nat} {n : Nat}, (∀ j, j < k → R (S.getD j (0, 0)) = true) → LabK R N S k f n → ∀ i, 1 ≤ i → i ≤ n → ∃ q, R q = true ∧ f q = i
  | 0, _, _, _, ⟨_, h2⟩, i, h3, h4 => by omega
  | k + 1, f, n, hS, ⟨f0, n0, h1, h2⟩, i, h3, h4 => by
    rcases h2 with ⟨_, a2, a3⟩ | ⟨a1, a2, a3⟩
    · obtain ⟨q, b1, b2⟩ := LabK.sur hN (fun j hj => hS j (by omega)) h1 i h3 (by omega)
      exact ⟨q, b1, by rw [a2]; exact b2⟩
    · have hs := hS k (by omega)
      by_cases e : i = n0 + 1
      · exact ⟨S.getD k (0, 0), hs, by rw [e]; exact (a3 _).1 (.start (List.mem_singleton.2 rfl) hs)⟩
      · obtain ⟨q, b1, b2⟩ := LabK.sur hN (fun j hj => hS j (by omega)) h1 i h3 (by omega)
        refine ⟨q, b1, ?_⟩
        rw [(a3 q).2 fun hr => ?_, b2]
        obtain ⟨t, ht, -, hft⟩ := LabK.reach hN h1 hr
        rw [List.mem_singleton.1 ht, a1] at hft
        omega
theorem LabK.parts (hN : ∀ p q, q ∈ N p → p ∈ N q) {f : Int × Int → Nat} {n : Nat} (hS : ∀ q, R q = true ↔ q ∈ S) (h : LabK R N S S.length f n) : Parts R N n := by
  have hr : ∀ j, j < S.length → R (S.getD j (0, 0)) = true := fun j hj => (hS _).2 (getD_mem hj)
  have hpos : ∀ q, R q = true → 0 < f q := fun q hq => (h.mem (fun q => (hS q).1) q).2 hq
  have hsur := LabK.sur hN hr h
  have hrange : ((List.range n).map (· + 1)).Nodup := by
    unfold List.Nodup
    rw [List.pairwise_map]
    exact List.nodup_range.imp fun h => by omega
  have hsame : ∀ q q', 0 < f q → f q = f q' → Rch R N [q] q' := fun q q' h1 h2 => by
    obtain ⟨s, b1, b2⟩ := LabK.same h q q' h1 h2
    exact Rch.trans1 (Rch.symm1 hN b1) b2
  refine ⟨fun L hL => ?_, fun L hL => ?_, ?_⟩
  · have := nodup_len ((List.range n).map (· + 1)) (L.map f) hrange fun i hi => by
      obtain ⟨j, hj, rfl⟩ := List.mem_map.1 hi
      have hj := List.mem_range.1 hj
      obtain ⟨q, b1, b2⟩ := hsur (j + 1) (by omega) (by omega)
      obtain ⟨r, b3, b4⟩ := hL q b1
      obtain ⟨t, ht, -, hft⟩ := LabK.reach hN h b4
      rw [List.mem_singleton.1 ht] at hft
      exact List.mem_map.2 ⟨r, b3, by omega⟩
    simpa using this
  · have := nodup_len (L.map f) ((List.range n).map (· + 1)) (by
      unfold List.Nodup
      rw [List.pairwise_map]
      refine List.Pairwise.imp_of_mem ?_ hL.2
      intro s t hs ht hst e
      exact hst (hsame _ _ (hpos _ (hL.1 s hs)) e)) fun i hi => by
      obtain ⟨q, hq, rfl⟩ := List.mem_map.1 hi
      have h1 := hpos q (hL.1 q hq)
      have h2 := h.few.2 q
      exact List.mem_map.2 ⟨f q - 1, List.mem_range.2 (by omega), by omega⟩
    simpa using this
  · refine ⟨(List.range n).map fun i => @dite _ (∃ q, R q = true ∧ f q = i + 1) (Classical.propDecidable _) (fun h => Classical.choose h) fun _ => (0, 0), by simp, fun q hq => ?_⟩
    have h1 := hpos q hq
    have h2 := h.few.2 q
    have hex : ∃ q', R q' = true ∧ f q' = f q - 1 + 1 := ⟨q, hq, by omega⟩
    refine ⟨Classical.choose hex, List.mem_map.2 ⟨f q - 1, List.mem_range.2 (by omega), ?_⟩, ?_⟩
    · exact @dif_pos _ (Classical.propDecidable _) hex _ _ _
    · have h3 := Classical.choose_spec hex
      exact hsame _ _ (by omega) (by omega)
end
/-- Neighbours, told by numbers. -/
theorem nbA_iff (e : Bool) (p q : Int × Int) : q ∈ nbA e p ↔ (p.1 - 1 ≤ q.1 ∧ q.1 ≤ p.1 + 1 ∧ p.2 - 1 ≤ q.2 ∧ q.2 ≤ p.2 + 1) ∧ ¬ (q.1 = p.1 ∧ q.2 = p.2) ∧ (e = true ∨ q.1 = p.1 ∨ q.2 = p.2) := by
  obtain ⟨px, py⟩ := p
  obtain ⟨qx, qy⟩ := q
  cases e
  all_goals
    simp only [nbA, arndL, List.mem_map, List.mem_cons, List.not_mem_nil, or_false, Prod.mk.injEq, if_true, if_false, Bool.false_eq_true, Prod.exists, false_or, true_or, and_true]
    constructor
    · rintro ⟨a, b, h1, h2, h3⟩
      omega
    · intro h
      refine ⟨qx - px, qy - py, ?_, by omega, by omega⟩
      omega
theorem nbA_one {e : Bool} {p q : Int × Int} (h : (q.1 = p.1 ∧ (q.2 = p.2 + 1 ∨ q.2 = p.2 - 1)) ∨ (q.2 = p.2 ∧ (q.1 = p.1 + 1 ∨ q.1 = p.1 - 1))) : q ∈ nbA e p :=
  (nbA_iff e p q).2 ⟨by omega, by omega, .inr (by omega)⟩
theorem nbA_dia {e : Bool} {p q : Int × Int} (he : e = true) (h : p.1 - 1 ≤ q.1 ∧ q.1 ≤ p.1 + 1 ∧ p.2 - 1 ≤ q.2 ∧ q.2 ≤ p.2 + 1) (hn : ¬ (q.1 = p.1 ∧ q.2 = p.2)) : q ∈ nbA e p :=
  (nbA_iff e p q).2 ⟨h, hn, .inl he⟩
/-! A closed way and what it parts. -/
def IsWay (R : Int × Int → Bool) (N : Int × Int → List (Int × Int)) (c : Nat → Int × Int) (n : Nat) : Prop := (∀ i, i ≤ n → R (c i) = true) ∧ ∀ i, i < n → c (i + 1) ∈ N (c i)
theorem Rch.way {R : Int × Int → Bool} {N : Int × Int → List (Int × Int)} {s q : Int × Int} (h : Rch R N [s] q) : ∃ c n, IsWay R N c n ∧ c 0 = s ∧ c n = q := by
  induction h with
  | @start p h1 h2 =>
    have := List.mem_singleton.1 h1
    subst this
    exact ⟨fun _ => p, 0, ⟨fun _ _ => h2, fun i hi => by omega⟩, rfl, rfl⟩
  | @step p q _ h1 h2 ih =>
    obtain ⟨c, n, ⟨a1, a2⟩, a3, a4⟩ := ih
    refine ⟨fun i => if i ≤ n then c i else q, n + 1, ⟨fun i hi => ?_, fun i hi => ?_⟩, ?_, ?_⟩
    · show R (if i ≤ n then c i else q) = true
      split
      · exact a1 i ‹_›
      · exact h2
    · show (if i + 1 ≤ n then c (i + 1) else q) ∈ N (if i ≤ n then c i else q)
      rw [if_pos (show i ≤ n by omega)]
      split
      · exact a2 i (by omega)
      · have e : i = n := by omega
        rw [e, a4]
        exact h1
    · exact a3
    · show (if n + 1 ≤ n then c (n + 1) else q) = q
      rw [if_neg (by omega)]
def xorTo (f : Nat → Bool) : Nat → Bool
  | 0 => false
  | n + 1 => xorTo f n != f n
theorem xorTo_add (f g : Nat → Bool) : ∀ n, (xorTo f n != xorTo g n) = xorTo (fun i => f i != g i) n
  | 0 => rfl
  | n + 1 => by
    show ((xorTo f n != f n) != (xorTo g n != g n)) = (xorTo (fun i => f i != g i) n != (f n != g n))
    rw [← xorTo_add f g n]
    cases xorTo f n <;> cases xorTo g n <;> cases f n <;> cases g n <;> rfl
theorem xorTo_tel (h : Nat → Bool) : ∀ n, xorTo (fun i => h i != h (i + 1)) n = (h 0 != h n)
  | 0 => by show false = _; cases h 0 <;> rfl
  | n + 1 => by
    show (xorTo (fun i => h i != h (i + 1)) n != (h n != h (n + 1))) = _
    rw [xorTo_tel h n]
    cases h 0 <;> cases h n <;> cases h (n + 1) <;> rfl
theorem xorTo_congr {f g : Nat → Bool} : ∀ {n : Nat}, (∀ i, i < n → f i = g i) → xorTo f n = xorTo g n
  | 0, _ => rfl
  | n + 1, h => by
    show (xorTo f n != f n) = (xorTo g n != g n)
    rw [xorTo_congr fun i hi => h i (by omega), h n (by omega)]
theorem xorTo_no {f : Nat → Bool} : ∀ {n : Nat}, (∀ i, i < n → f i = false) → xorTo f n = false
  | 0, _ => rfl
  | n + 1, h => by
    show (xorTo f n != f n) = false
    rw [xorTo_no fun i hi => h i (by omega), h n (by omega)]
    rfl
/-- A step between the row of a spot and the next one, to the right of the spot. -/
def crs (q u v : Int × Int) : Bool := decide ((u.2 = q.2 ∧ v.2 = q.2 + 1 ∧ q.1 < u.1) ∨ (v.2 = q.2 ∧ u.2 = q.2 + 1 ∧ q.1 < v.1))
def rgt (q u : Int × Int) : Bool := decide (u.2 = q.2 ∧ q.1 < u.1)
theorem crs_side {e : Bool} {q q' u v : Int × Int} (hq : q' ∈ nbA (!e) q) (h2 : q'.2 = q.2) (hu1 : u ≠ q) (hu2 : u ≠ q') (hv1 : v ≠ q) (hv2 : v ≠ q') : crs q u v = crs q' u v := by
  rw [nbA_iff] at hq
  obtain ⟨qx, qy⟩ := q
  obtain ⟨rx, ry⟩ := q'
  obtain ⟨ux, uy⟩ := u
  obtain ⟨vx, vy⟩ := v
  simp only [ne_eq, Prod.mk.injEq] at *
  obtain ⟨hq, hq1, -⟩ := hq
  unfold crs
  refine decide_eq_decide.2 ?_
  simp only
  omega
theorem crs_down {e : Bool} {q q' u v : Int × Int} (hq : q' ∈ nbA (!e) q) (hn : v ∈ nbA e u) (h2 : q'.2 = q.2 + 1) (hu1 : u ≠ q) (hu2 : u ≠ q') (hv1 : v ≠ q) (hv2 : v ≠ q') : (crs q u v != crs q' u v) = (rgt q' u != rgt q' v) := by
  rw [nbA_iff] at hq hn
  obtain ⟨qx, qy⟩ := q
  obtain ⟨rx, ry⟩ := q'
  obtain ⟨ux, uy⟩ := u
  obtain ⟨vx, vy⟩ := v
  simp only [ne_eq, Prod.mk.injEq] at *
  obtain ⟨hq, hq1, hq2⟩ := hq
  obtain ⟨hn, hn1, hn2⟩ := hn
  have hd : e = true ∧ rx = qx ∨ (ux = vx ∨ uy = vy) := by
    cases e
    · simp at hn2; omega
    · simp at hq2; exact .inl ⟨rfl, by omega⟩
  cases h3 : crs (qx, qy) (ux, uy) (vx, vy) <;> cases h4 : crs (rx, ry) (ux, uy) (vx, vy) <;> cases h5 : rgt (rx, ry) (ux, uy) <;> cases h6 : rgt (rx, ry) (vx, vy) <;>
    (first
      | rfl
      | (exfalso
         unfold crs at h3 h4
         unfold rgt at h5 h6
         simp only [decide_eq_true_eq, decide_eq_false_iff_not] at h3 h4 h5 h6
         rcases hd with ⟨-, hd⟩ | hd <;> omega))
/-- The curve closed by a spot behind its last one. -/
def closeW (c : Nat → Int × Int) (n : Nat) (p : Int × Int) (i : Nat) : Int × Int := if i ≤ n then c i else if i = n + 1 then p else c 0
theorem jordan {e : Bool} {B w : Int × Int → Bool} {x y : Int} {c : Nat → Int × Int} {n : Nat} {U : Int × Int} (hc : IsWay B (nbA e) c n)
    (hB : ∀ q, B q = true → q.2 < y ∨ q.2 = y ∧ q.1 < x) (hw : ∀ q, w q = true → B q = false ∧ q ≠ (x, y))
    (h : (e = false ∧ c 0 = (x - 1, y) ∧ c n = (x, y - 1) ∧ U = (x - 1, y - 1)) ∨ (e = true ∧ (c 0 = (x - 1, y) ∨ c 0 = (x - 1, y - 1)) ∧ c n = (x + 1, y - 1) ∧ U = (x, y - 1))) :
    ¬ Rch w (nbA (!e)) [U] (x, y + 1) := by
  intro hr
  obtain ⟨k, hk⟩ : ∃ k, k = closeW c n (x, y) := ⟨_, rfl⟩
  have k1 : ∀ i, i ≤ n → k i = c i := fun i hi => by rw [hk]; unfold closeW; rw [if_pos hi]
  have k2 : k (n + 1) = (x, y) := by rw [hk]; unfold closeW; rw [if_neg (by omega), if_pos rfl]
  have k3 : k (n + 2) = c 0 := by rw [hk]; unfold closeW; rw [if_neg (by omega), if_neg (by omega)]
  have kB : ∀ i, i ≤ n + 2 → B (k i) = true ∨ k i = (x, y) := fun i hi => by
    rcases Nat.lt_or_ge n i with h1 | h1
    · rcases Nat.lt_or_ge (n + 1) i with h2 | h2
      · rw [show i = n + 2 by omega, k3]; exact .inl (hc.1 0 (Nat.zero_le _))
      · rw [show i = n + 1 by omega, k2]; exact .inr rfl
    · rw [k1 i h1]; exact .inl (hc.1 i h1)
  have kn : ∀ i, i < n + 2 → k (i + 1) ∈ nbA e (k i) := fun i hi => by
    rcases Nat.lt_or_ge i n with h1 | h1
    · rw [k1 i (by omega), k1 (i + 1) (by omega)]; exact hc.2 i h1
    · rcases Nat.lt_or_ge n i with h2 | h2
      · rw [show i = n + 1 by omega, k2, show n + 1 + 1 = n + 2 from rfl, k3]
        rcases h with ⟨_, h3, _, _⟩ | ⟨he, h3 | h3, _, _⟩
        · rw [h3]; exact nbA_one (by simp only; first | omega | (simp; done) | (simp; omega))
        · rw [h3]; exact nbA_one (by simp only; first | omega | (simp; done) | (simp; omega))
        · rw [h3]; exact nbA_dia he (by simp only; first | omega | (simp; done) | (simp; omega)) (by simp only; first | omega | (simp; done) | (simp; omega))
      · rw [show i = n by omega, k1 n (Nat.le_refl _), k2]
        rcases h with ⟨_, _, h3, _⟩ | ⟨he, _, h3, _⟩
        · rw [h3]; exact nbA_one (by simp only; first | omega | (simp; done) | (simp; omega))
        · rw [h3]; exact nbA_dia he (by simp only; first | omega | (simp; done) | (simp; omega)) (by simp only; first | omega | (simp; done) | (simp; omega))
  have kw : ∀ q i, w q = true → i ≤ n + 2 → k i ≠ q := fun q i hq hi e => by
    obtain ⟨h1, h2⟩ := hw q hq
    rcases kB i hi with h3 | h3
    · rw [e, h1] at h3; cases h3
    · exact h2 (by rw [← e]; exact h3)
  obtain ⟨I, hI⟩ : ∃ I : Int × Int → Bool, I = fun q => xorTo (fun i => crs q (k i) (k (i + 1))) (n + 2) := ⟨_, rfl⟩
  have inv : ∀ q q', w q = true → w q' = true → q' ∈ nbA (!e) q → q'.2 = q.2 + 1 → I q = I q' := fun q q' h1 h2 h3 h4 => by
    have h5 : (I q != I q') = false := by
      rw [hI]
      simp only
      rw [xorTo_add, xorTo_congr (g := fun i => rgt q' (k i) != rgt q' (k (i + 1))) fun i hi => crs_down h3 (kn i hi) h4 (kw q i h1 (by omega)) (kw q' i h2 (by omega)) (kw q _ h1 (by omega)) (kw q' _ h2 (by omega)),
        xorTo_tel (fun i => rgt q' (k i)), k3, k1 0 (Nat.zero_le _)]
      cases rgt q' (c 0) <;> rfl
    revert h5
    cases I q <;> cases I q' <;> simp
  have inv2 : ∀ q q', w q = true → w q' = true → q' ∈ nbA (!e) q → I q = I q' := fun q q' h1 h2 h3 => by
    have h4 := (nbA_iff _ _ _).1 h3
    rcases Int.lt_trichotomy q'.2 q.2 with h5 | h5 | h5
    · exact (inv q' q h2 h1 (nbA_symm _ _ _ h3) (by omega)).symm
    · rw [hI]
      exact xorTo_congr fun i hi => crs_side h3 h5 (kw q i h1 (by omega)) (kw q' i h2 (by omega)) (kw q _ h1 (by omega)) (kw q' _ h2 (by omega))
    · exact inv q q' h1 h2 h3 (by omega)
  have all : ∀ q, Rch w (nbA (!e)) [U] q → I q = I U := fun q hq => by
    induction hq with
    | start h1 h2 => rw [List.mem_singleton.1 h1]
    | step h0 h1 h2 ih => rw [← ih]; exact (inv2 _ _ h0.right h2 h1).symm
  have hD : I (x, y + 1) = false := by
    rw [hI]
    refine xorTo_no fun i hi => ?_
    refine decide_eq_false ?_
    have r : ∀ j, j ≤ n + 2 → (k j).2 ≤ y := fun j hj => by
      rcases kB j hj with h1 | h1
      · have := hB _ h1; omega
      · rw [h1]; exact Int.le_refl _
    have r1 := r i (by omega)
    have r2 := r (i + 1) (by omega)
    simp only
    omega
  have hU : I U = true := by
    rw [hI]
    show ((xorTo _ n != crs U (k n) (k (n + 1))) != crs U (k (n + 1)) (k (n + 2))) = true
    rw [xorTo_no fun i hi => ?_, k1 n (Nat.le_refl _), k2, k3]
    · rcases h with ⟨_, h3, h4, h5⟩ | ⟨_, h3 | h3, h4, h5⟩
      all_goals
        rw [h3, h4, h5]
        have e1 : ∀ a b c d : Bool, a = true → b = false → ((false != a) != b) = true := by intro a b c d h1 h2; rw [h1, h2]; rfl
        refine e1 _ _ true true (decide_eq_true ?_) (decide_eq_false ?_)
        · simp only; first | omega | (simp; done) | (simp; omega)
        · simp only; first | omega | (simp; done) | (simp; omega)
    · refine decide_eq_false ?_
      rw [k1 i (by omega), k1 (i + 1) (by omega)]
      have b1 := hB _ (hc.1 i (by omega))
      have b2 := hB _ (hc.1 (i + 1) (by omega))
      have b3 := (nbA_iff _ _ _).1 (hc.2 i hi)
      rcases h with ⟨h1, _, _, h5⟩ | ⟨h1, _, _, h5⟩
      · rw [h5]
        rw [h1] at b3
        simp only [Bool.false_eq_true, false_or] at b3 ⊢
        omega
      · rw [h5]
        simp only
        omega
  have := all _ hr
  rw [hD, hU] at this
  cases this
end Go.Proofs.Ythgkmaccbcpaeaa
