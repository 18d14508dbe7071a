/- What the laws read: slices of pairs, of their arguments. -/
import Derived.Test.YtpploijlijnahaaLOpen
import Derived.Test.YtpploijlijnahaaLPairs
import Derived.Deep.SlicePairs
namespace Go.Proofs.Ytpploijlijnahaa
open Go.ChangeShapes Go.WideShapes Go.RowKit Go.Deep Go.Joins
section
variable {H : Type} {enc : TypeId × Value → H} {P : Program} {w : World} {base : Nat} {spare : Nat → Bool} {held : Bool}
def intOfV : Value → Int
  | .int _ z => z
  | _ => 0
theorem RowP.of_at {w : World} {a : Option Addr} {ps : List (Int × Int)} (h : ∀ i, i < ps.length → ∃ b o, a = some ⟨b, o, none⟩ ∧ w.cell? ⟨b, o + i * 2, none⟩ = some (.int .i64 (ps.getD i (0, 0)).1) ∧ w.cell? ⟨b, o + i * 2 + 1, none⟩ = some (.int .i64 (ps.getD i (0, 0)).2)) : RowP w a ps := by
  intro k hk
  rw [flatP_len] at hk
  obtain ⟨b, o, e, h1, h2⟩ := h (k / 2) (by omega)
  rcases Nat.mod_two_eq_zero_or_one k with hm | hm
  · have ek : k = 2 * (k / 2) := by omega
    refine ⟨b, o, e, ?_⟩
    have e2 : (flatP ps).getD k 0 = (ps.getD (k / 2) (0, 0)).1 := by rw [ek, flatP_fst, ← ek]
    rw [e2, ← h1]
    congr 2
    omega
  · have ek : k = 2 * (k / 2) + 1 := by omega
    refine ⟨b, o, e, ?_⟩
    have e2 : (flatP ps).getD k 0 = (ps.getD (k / 2) (0, 0)).2 := by
      have := flatP_snd ps (k / 2)
      rw [← ek] at this
      exact this
    rw [e2, ← h2]
    congr 2
    omega
theorem open_pairs {t e q : TypeId} {f0 f1 : Field} {fuel : Nat} {v0 : Value} {x : DataW H × List MemPlace} (ht : P.underlying t = some (.slice e)) (he : P.underlying e = some (.struct #[f0, f1])) (t0 : f0.type = q) (t1 : f1.type = q) (hq : P.underlying q = some (.int .i64))
    (ce : P.cellsOf e = 2) (o0 : f0.offset = 0) (o1 : f1.offset = 1) (cq : P.cellsOf q = 1) (h : DataW.trod enc P w base (fun _ => true) held fuel t [v0] = some x) :
    ∃ (a : Option Addr) (c : Nat) (ss : List (Int × Int)), v0 = .slice a ss.length c ∧ RowP w a ss ∧ ss.length ≤ maxLen := by
  rcases open_slice_pairs ht he ce o0 o1 (by rw [t0]; exact cq) (by rw [t1]; exact cq) h with ⟨h0, _⟩ | ⟨a, len, cap, m, n, V0, V1, D0, D1, P0, P1, h0, _, hl, hm, hmm, _, hx⟩
  · exact ⟨none, 0, [], by simpa using h0, RowP.of_at (fun i hi => by simp at hi), by simp⟩
  simp only [if_true] at hmm
  subst hmm
  have hv0 : v0 = .slice (some a) len m := by simpa using h0
  refine ⟨some a, m, (List.range len).map fun i => (intOfV (V0 i), intOfV (V1 i)), by simpa using hv0, RowP.of_at fun i hi => ?_, by simp; omega⟩
  have hi' : i < len := by simpa using hi
  obtain ⟨q1, q2, q3, q4⟩ := hx i (by omega)
  rw [t0] at q3
  rw [t1] at q4
  obtain ⟨z0, e0, _, _⟩ := DataW.trod_int hq q3
  obtain ⟨z1, e1, _, _⟩ := DataW.trod_int hq q4
  simp at e0 e1
  obtain ⟨b, o, rfl⟩ := spot_none (hx 0 (by omega)).1
  rw [add_at] at q1 q2
  refine ⟨b, o, rfl, ?_, ?_⟩
  · rw [q1, e0]; simp [List.getD_eq_getElem?_getD, hi', e0, intOfV]
  · rw [Nat.add_assoc, q2, e1]; simp [List.getD_eq_getElem?_getD, hi', e1, intOfV]
end
end Go.Proofs.Ytpploijlijnahaa
