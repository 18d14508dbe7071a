/- FnEuler, plain: the other way by the complement; the formula. -/
import Derived.Test.YthgkmaccbcpaeaaEulQ
namespace Go.Proofs.Ythgkmaccbcpaeaa
open Go Go.RowKit
theorem rch_map {R R' : Int × Int → Bool} {N : Int × Int → List (Int × Int)} (t : Int × Int → Int × Int) (hR : ∀ p, R p = true → R' (t p) = true) (hN : ∀ p q, q ∈ N p → t q ∈ N (t p)) {s q : Int × Int} (h : Rch R N [s] q) : Rch R' N [t s] (t q) := by
  induction h with
  | start h1 h2 => rw [List.mem_singleton.1 h1] at h2 ⊢; exact .start (List.mem_singleton.2 rfl) (hR _ h2)
  | step _ h1 h2 ih => exact .step ih (hN _ _ h1) (hR _ h2)
theorem nbA_move (e : Bool) (a b : Int) {p q : Int × Int} (h : q ∈ nbA e p) : (q.1 + a, q.2 + b) ∈ nbA e (p.1 + a, p.2 + b) := by
  rw [nbA_iff] at h ⊢
  simp only
  exact ⟨by omega, by omega, h.2.2.imp_right fun h => by omega⟩
theorem apart_cover {R : Int × Int → Bool} {N : Int × Int → List (Int × Int)} (hN : ∀ p q, q ∈ N p → p ∈ N q) {L K : List (Int × Int)} (h : Apart R N L) (hK : Covers R N K) : L.length ≤ K.length := by
  have hex : ∀ q, ∃ r, R q = true → r ∈ K ∧ Rch R N [r] q := fun q => by
    by_cases hq : R q = true
    · obtain ⟨r, h1, h2⟩ := hK q hq
      exact ⟨r, fun _ => ⟨h1, h2⟩⟩
    · exact ⟨q, fun h => absurd h hq⟩
  obtain ⟨f, hf⟩ := Classical.axiomOfChoice hex
  have := nodup_len (L.map f) K (by
    unfold List.Nodup
    rw [List.pairwise_map]
    refine List.Pairwise.imp_of_mem ?_ h.2
    intro s t hs ht hst e
    have h1 := hf s (h.1 s hs)
    have h2 := hf t (h.1 t ht)
    exact hst (Rch.trans1 (Rch.symm1 hN h1.2) (by rw [e]; exact h2.2))) fun q hq => by
    obtain ⟨s, hs, rfl⟩ := List.mem_map.1 hq
    exact (hf s (h.1 s hs)).1
  simpa using this
/-- The white of the frame, moved into a box of its own. -/
def invB (W H : Nat) (B : Int × Int → Bool) (q : Int × Int) : Bool := whiteF W H B (q.1 - 1, q.2 - 1)
theorem invB_at {W H : Nat} {B : Int × Int → Bool} (u v : Int) : invB W H B (u, v) = (decide (0 ≤ u ∧ u ≤ W + 1 ∧ 0 ≤ v ∧ v ≤ H + 1) && !B (u - 1, v - 1)) := by
  unfold invB whiteF
  simp only
  congr 1
  refine decide_eq_decide.2 ?_
  omega
theorem win_not (e a b c d : Bool) : win (!e) (!a) (!b) (!c) (!d) = - win e a b c d := by
  cases e <;> cases a <;> cases b <;> cases c <;> cases d <;> decide
theorem chi_inv {e : Bool} {W H : Nat} {B : Int × Int → Bool} (hbox : ∀ q, B q = true → 0 ≤ q.1 ∧ q.1 < W ∧ 0 ≤ q.2 ∧ q.2 < H) : chi (!e) (W + 2) (H + 2) (invB W H B) = 4 - chi e W H B := by
  have hout : ∀ u v : Int, ¬ (0 ≤ u ∧ u < W ∧ 0 ≤ v ∧ v < H) → B (u, v) = false := fun u v h => by
    cases hb : B (u, v)
    · rfl
    · exact absurd (hbox _ hb) h
  have ring : ∀ u v : Int, (0 ≤ u ∧ u ≤ W + 1 ∧ 0 ≤ v ∧ v ≤ H + 1) → (u = 0 ∨ u = W + 1 ∨ v = 0 ∨ v = H + 1) → invB W H B (u, v) = true := fun u v h h2 => by
    rw [invB_at, decide_eq_true h, hout _ _ (by omega)]; rfl
  have off : ∀ u v : Int, ¬ (0 ≤ u ∧ u ≤ W + 1 ∧ 0 ≤ v ∧ v ≤ H + 1) → invB W H B (u, v) = false := fun u v h => by
    rw [invB_at, decide_eq_false h]; rfl
  have ins : ∀ u v : Int, (0 ≤ u ∧ u ≤ W + 1 ∧ 0 ≤ v ∧ v ≤ H + 1) → invB W H B (u, v) = !B (u - 1, v - 1) := fun u v h => by
    rw [invB_at, decide_eq_true h]; rfl
  obtain ⟨C, hC⟩ : ∃ C, C = invB W H B := ⟨_, rfl⟩
  rw [← hC] at ring off ins ⊢
  obtain ⟨F, hF⟩ : ∃ F : Nat → Int, F = fun i => sI (fun j => winA (!e) C i j) (W + 2 + 1) := ⟨_, rfl⟩
  have top : F 0 = 2 := by
    rw [hF]
    show sI (fun j => winA (!e) C 0 j) (W + 1 + 2) = 2
    rw [sI_ends, sI_zero (n := W + 1) fun j hj => ?_]
    · have a1 : winA (!e) C 0 0 = 1 := by
        unfold winA
        rw [off _ _ (by omega), off _ _ (by omega), off _ _ (by omega), ring _ _ (by omega) (by omega)]
        cases e <;> decide
      have a2 : winA (!e) C 0 (W + 1 + 1) = 1 := by
        unfold winA
        rw [off _ _ (by omega), off _ _ (by omega), ring _ _ (by omega) (by omega), off _ _ (by omega)]
        cases e <;> decide
      rw [a1, a2]; decide
    · unfold winA
      rw [off _ _ (by omega), off _ _ (by omega), ring _ _ (by omega) (by omega), ring _ _ (by omega) (by omega)]
      cases e <;> decide
  have bot : F (H + 1 + 1) = 2 := by
    rw [hF]
    show sI (fun j => winA (!e) C (H + 1 + 1) j) (W + 1 + 2) = 2
    rw [sI_ends, sI_zero (n := W + 1) fun j hj => ?_]
    · have a1 : winA (!e) C (H + 1 + 1) 0 = 1 := by
        unfold winA
        rw [off _ _ (by omega), ring _ _ (by omega) (by omega), off _ _ (by omega), off _ _ (by omega)]
        cases e <;> decide
      have a2 : winA (!e) C (H + 1 + 1) (W + 1 + 1) = 1 := by
        unfold winA
        rw [ring _ _ (by omega) (by omega), off _ _ (by omega), off _ _ (by omega), off _ _ (by omega)]
        cases e <;> decide
      rw [a1, a2]; decide
    · unfold winA
      rw [ring _ _ (by omega) (by omega), ring _ _ (by omega) (by omega), off _ _ (by omega), off _ _ (by omega)]
      cases e <;> decide
  have mid : ∀ i, i < H + 1 → F (i + 1) = - sI (fun j => winA e B i j) (W + 1) := fun i hi => by
    rw [hF]
    show sI (fun j => winA (!e) C (i + 1) j) (W + 1 + 2) = _
    rw [sI_ends, sI_congr (n := W + 1) (g := fun j => - winA e B i j) fun j hj => ?_, sI_neg]
    · have a1 : winA (!e) C (i + 1) 0 = 0 := by
        unfold winA
        rw [off _ _ (by omega), ring _ _ (by omega) (by omega), off _ _ (by omega), ring _ _ (by omega) (by omega)]
        cases e <;> decide
      have a2 : winA (!e) C (i + 1) (W + 1 + 1) = 0 := by
        unfold winA
        rw [ring _ _ (by omega) (by omega), off _ _ (by omega), ring _ _ (by omega) (by omega), off _ _ (by omega)]
        cases e <;> decide
      rw [a1, a2, Int.zero_add, Int.add_zero]
    · unfold winA
      rw [ins _ _ (by omega), ins _ _ (by omega), ins _ _ (by omega), ins _ _ (by omega), win_not,
        show ((j + 1 : Nat) : Int) - 1 - 1 = (j : Int) - 1 by omega, show ((i + 1 : Nat) : Int) - 1 - 1 = (i : Int) - 1 by omega, show ((j + 1 : Nat) : Int) - 1 = (j : Int) by omega, show ((i + 1 : Nat) : Int) - 1 = (i : Int) by omega]
  show sI (fun i => sI (fun j => winA (!e) C i j) (W + 2 + 1)) (H + 1 + 2) = _
  rw [← hF, sI_ends, top, bot, sI_congr (n := H + 1) mid, sI_neg]
  show 2 + -(chi e W H B) + 2 = _
  omega
/-- Parts, less parts of the white around and within, and one: a fourth of the sum over windows. -/
theorem euler_parts {e : Bool} {W H : Nat} {B : Int × Int → Bool} {n m : Nat} (hbox : ∀ q, B q = true → 0 ≤ q.1 ∧ q.1 < W ∧ 0 ≤ q.2 ∧ q.2 < H)
    (hn : Parts B (nbA e) n) (hm : Parts (invB W H B) (nbA (!e)) m) : 4 * ((n : Int) - m + 1) = chi e W H B := by
  have hout : ∀ q : Int × Int, ¬ (0 ≤ q.1 ∧ q.1 < W ∧ 0 ≤ q.2 ∧ q.2 < H) → B q = false := fun q h => by
    cases hb : B q
    · rfl
    · exact absurd (hbox _ hb) h
  obtain ⟨LB, LW, a1, a2, a3⟩ := good_all (e := e) hbox
  have b1 := hn.1 LB a1
  have b2 : LW.length ≤ m := by
    have := hm.2.1 (LW.map fun q => (q.1 + 1, q.2 + 1)) ⟨fun s hs => ?_, ?_⟩
    · simpa using this
    · obtain ⟨t, ht, rfl⟩ := List.mem_map.1 hs
      unfold invB
      simp only [Int.add_sub_cancel]
      exact a2.1 t ht
    · rw [List.pairwise_map]
      refine a2.2.imp fun {s t} h hr => h ?_
      have := rch_map (R' := whiteF W H B) (fun q => (q.1 - 1, q.2 - 1)) (fun p hp => hp) (fun p q h => nbA_move _ (-1) (-1) h) hr
      simpa [Int.add_sub_cancel] using this
  obtain ⟨LB2, LW2, c1, c2, c3⟩ := good_all (e := !e) (W := W + 2) (H := H + 2) (B := invB W H B) (fun q hq => by
    obtain ⟨u, v⟩ := q
    rw [invB_at, Bool.and_eq_true] at hq
    have := of_decide_eq_true hq.1
    simp only
    omega)
  have d1 := hm.1 LB2 c1
  obtain ⟨K, k1, k2⟩ := hn.2.2
  rw [Bool.not_not] at c2
  obtain ⟨R, hR⟩ : ∃ R, R = whiteF (W + 2) (H + 2) (invB W H B) := ⟨_, rfl⟩
  rw [← hR] at c2
  have ring : ∀ u v : Int, (-1 ≤ u ∧ u ≤ W + 2 ∧ -1 ≤ v ∧ v ≤ H + 2) → (u = -1 ∨ u = W + 2 ∨ v = -1 ∨ v = H + 2) → R (u, v) = true := fun u v h h2 => by
    rw [hR]
    unfold whiteF
    rw [decide_eq_true (by simp only; first | omega | (simp; done) | (simp; omega)), invB_at, decide_eq_false (by omega)]
    rfl
  have r0 : Rch R (nbA e) [(-1, -1)] (-1, -1) := .start (List.mem_singleton.2 rfl) (ring _ _ (by omega) (by omega))
  have goX : ∀ (y : Int), (y = -1 ∨ y = H + 2) → Rch R (nbA e) [(-1, -1)] (-1, y) → ∀ k : Nat, k ≤ W + 3 → Rch R (nbA e) [(-1, -1)] (-1 + (k : Int), y) := by
    intro y hy h0 k
    induction k with
    | zero => intro _; simpa using h0
    | succ k ih => intro hk; exact .step (ih (by omega)) (nbA_one (by simp only; first | omega | (simp; done) | (simp; omega))) (ring _ _ (by omega) (by omega))
  have goY : ∀ (x : Int), (x = -1 ∨ x = W + 2) → Rch R (nbA e) [(-1, -1)] (x, -1) → ∀ k : Nat, k ≤ H + 3 → Rch R (nbA e) [(-1, -1)] (x, -1 + (k : Int)) := by
    intro x hx h0 k
    induction k with
    | zero => intro _; simpa using h0
    | succ k ih => intro hk; exact .step (ih (by omega)) (nbA_one (by simp only; first | omega | (simp; done) | (simp; omega))) (ring _ _ (by omega) (by omega))
  have eX : ∀ u : Int, -1 ≤ u → -1 + ((u + 1).toNat : Int) = u := fun u hu => by omega
  have left : ∀ v : Int, -1 ≤ v → v ≤ H + 2 → Rch R (nbA e) [(-1, -1)] (-1, v) := fun v h1 h2 => by
    have := goY (-1) (.inl rfl) r0 (v + 1).toNat (by omega)
    rwa [eX v h1] at this
  have rowT : ∀ u : Int, -1 ≤ u → u ≤ W + 2 → ∀ y : Int, (y = -1 ∨ y = H + 2) → Rch R (nbA e) [(-1, -1)] (u, y) := fun u h1 h2 y hy => by
    have := goX y hy (left y (by omega) (by omega)) (u + 1).toNat (by omega)
    rwa [eX u h1] at this
  have right : ∀ v : Int, -1 ≤ v → v ≤ H + 2 → Rch R (nbA e) [(-1, -1)] ((W : Int) + 2, v) := fun v h1 h2 => by
    have := goY ((W : Int) + 2) (.inr rfl) (rowT _ (by omega) (by omega) (-1) (.inl rfl)) (v + 1).toNat (by omega)
    rwa [eX v h1] at this
  have d2 : LW2.length ≤ n + 1 := by
    have := apart_cover (nbA_symm e) c2 (K := (-1, -1) :: K.map fun q => (q.1 + 1, q.2 + 1)) fun q hq => ?_
    · rw [List.length_cons, List.length_map, k1] at this; exact this
    · obtain ⟨u, v⟩ := q
      have hq1 := hq
      rw [hR] at hq1
      unfold whiteF at hq1
      rw [Bool.and_eq_true, invB_at] at hq1
      have hin := of_decide_eq_true hq1.1
      simp only at hin
      by_cases hc : 0 ≤ u ∧ u ≤ W + 1 ∧ 0 ≤ v ∧ v ≤ H + 1
      · have hb : B (u - 1, v - 1) = true := by
          have := hq1.2
          rw [decide_eq_true hc] at this
          simpa using this
        obtain ⟨r, r1, r2⟩ := k2 _ hb
        refine ⟨(r.1 + 1, r.2 + 1), List.mem_cons_of_mem _ (List.mem_map.2 ⟨r, r1, rfl⟩), ?_⟩
        have := rch_map (R' := R) (fun q => (q.1 + 1, q.2 + 1)) (fun p hp => by
          have hb := hbox p hp
          rw [hR]
          unfold whiteF
          rw [decide_eq_true (by simp only; first | omega | (simp; done) | (simp; omega)), invB_at, decide_eq_true (by omega)]
          simp only [Int.add_sub_cancel]
          rw [show (p.1, p.2) = p from rfl, hp]
          rfl) (fun p q h => nbA_move _ 1 1 h) r2
        simpa [Int.sub_add_cancel] using this
      · refine ⟨(-1, -1), List.mem_cons_self, ?_⟩
        have hc2 : u = -1 ∨ u = W + 2 ∨ v = -1 ∨ v = H + 2 := by omega
        rcases hc2 with rfl | rfl | hv | hv
        · exact left v (by omega) (by omega)
        · exact right v (by omega) (by omega)
        · exact rowT u (by omega) (by omega) v (.inl hv)
        · exact rowT u (by omega) (by omega) v (.inr hv)
  rw [chi_inv hbox] at c3
  omega
end Go.Proofs.Ythgkmaccbcpaeaa
