/- What the laws read: slices, of their arguments. -/
import Derived.Test.YtpploijlijnahaaProg
import Derived.Test.YtpploijlijnahaaRep
import Derived.Lib.SmallJoins
import Derived.Deep.Matrix
import Derived.Deep.Strs
namespace Go.Proofs.Ytpploijlijnahaa
open Go.ChangeShapes Go.WideShapes Go.RowKit Go.Deep Go.Joins
section
variable {H : Type} {enc : TypeId × Value → H} {P : Program} {w : World} {base : Nat} {spare : Nat → Bool} {held : Bool}
theorem spot_none {a : Addr} {v : Value} (h : w.cell? (a.add 0) = some v) : ∃ b o, a = ⟨b, o, none⟩ := by
  obtain ⟨b, o, spot⟩ := a
  have hspot : spot = none := by simpa [Addr.add] using World.cell?_spot h
  subst hspot
  exact ⟨b, o, rfl⟩
theorem add_at (b o i : Nat) : (⟨b, o, none⟩ : Addr).add i = ⟨b, o + i, none⟩ := by
  unfold Addr.add
  by_cases h : i = 0
  · simp [h]
  · simp [h]
theorem open_agg1 {r : Reach} {b0 : Nat} {t : TypeId} {f0 : Field} {v : Value} {d : DataW H} {p : List MemPlace} (hs : P.underlying t = some (.struct #[f0])) (hone : oneCellFields P #[f0] = true) (hC : P.cellsOf t = 1)
    (hv : Value.okWide P w r b0 t v) (h : DataW.Trod enc P w base spare held t v d p) :
    ∃ (v0 : Value) (y0 : DataW H × List MemPlace) (n : Nat), v = .agg #[v0] ∧ DataW.trod enc P w base spare held n f0.type [v0] = some y0 := by
  obtain ⟨cs, rfl, hsz⟩ := okWide_struct hs hv
  obtain ⟨c0, rfl⟩ : ∃ c0, cs = #[c0] := by
    have : cs.size = 1 := hsz.trans hC
    rcases cs with ⟨l⟩
    match l, this with
    | [c0], _ => exact ⟨c0, rfl⟩
  obtain ⟨fuel, hf⟩ := h
  obtain ⟨y0, n, _, _, h0⟩ := trod_struct1 hs hf
  obtain ⟨o0, k0⟩ := hone_of hone 0 f0 rfl
  exact ⟨c0, y0, n, rfl, by simpa [Value.cells, o0, k0] using h0⟩
theorem open_rows {t e q : TypeId} {fuel : Nat} {v0 : Value} {x : DataW H × List MemPlace} (ht : P.underlying t = some (.slice e)) (he : P.underlying e = some (.slice q)) (hq : P.underlying q = some (.int .i64))
    (ce : P.cellsOf e = 1) (cq : P.cellsOf q = 1) (h : DataW.trod enc P w base (fun _ => true) held fuel t [v0] = some x) :
    ∃ (a : Option Addr) (c : Nat) (A : Nat → Option Addr) (C : Nat → Nat) (m : List (List Int)), v0 = .slice a m.length c ∧ MatAt w a A C m ∧ m.length ≤ maxLen ∧ ∀ r, (m.getD r []).length ≤ maxLen := by
  rcases open_int_rows ht he hq ce cq h with ⟨h0, _⟩ | ⟨a, len, cap, A, L, C, Z, h0, _, hl, hm, _, hx⟩
  · exact ⟨none, 0, fun _ => none, fun _ => 0, [], by simpa using h0, fun r hr => by simp at hr, by simp, fun r => by simp⟩
  have hv0 : v0 = .slice (some a) len cap := by simpa using h0
  refine ⟨some a, cap, A, C, (List.range len).map fun r => (Z r).take (L r), by simpa using hv0, fun r hr => ?_, by simp; omega, fun r => ?_⟩
  · have hr' : r < len := by simpa using hr
    obtain ⟨q1, q2, q3, q4, _, q6, q7⟩ := hx r (by omega)
    have hg : ((List.range len).map fun r => (Z r).take (L r)).getD r [] = (Z r).take (L r) := by simp [List.getD_eq_getElem?_getD, hr']
    have hgl : ((Z r).take (L r)).length = L r := by simp; omega
    rw [hg]
    obtain ⟨b, o, rfl⟩ := spot_none (hx 0 (by omega)).1
    rw [add_at] at q1
    refine ⟨⟨b, o, rfl, by rw [hgl]; exact q1⟩, fun i hi => ?_⟩
    rw [hgl] at hi
    cases hA : A r with
    | none => have := q6 hA; omega
    | some a' =>
      obtain ⟨_, h7⟩ := q7 a' hA
      obtain ⟨b', o', rfl⟩ := spot_none (h7 0 (by omega))
      refine ⟨b', o', rfl, ?_⟩
      have := h7 i (by omega)
      rw [add_at] at this
      rw [this]
      have e : ((Z r).take (L r)).getD i 0 = (Z r).getD i 0 := by simp [List.getD_eq_getElem?_getD, hi]
      rw [e]
  · by_cases hr : r < len
    · obtain ⟨_, q2, q3, q4, _⟩ := hx r (by omega)
      simp [List.getD_eq_getElem?_getD, hr]; omega
    · simp [List.getD_eq_getElem?_getD, hr]
theorem open_texts {t e : TypeId} {fuel : Nat} {v0 : Value} {x : DataW H × List MemPlace} (ht : P.underlying t = some (.slice e)) (he : P.underlying e = some .string) (hc : P.cellsOf e = 1)
    (h : DataW.trod enc P w base (fun _ => true) held fuel t [v0] = some x) :
    ∃ (a : Option Addr) (c : Nat) (ss : List ByteArray), v0 = .slice a ss.length c ∧ RowS w a ss ∧ ss.length ≤ maxLen ∧ ∀ r, (ss.getD r ByteArray.empty).size ≤ maxLen := by
  rcases open_strs ht he hc h with ⟨h0, _⟩ | ⟨a, len, cap, m, S, h0, _, hl, hm, hmm, _, hx⟩
  · exact ⟨none, 0, [], by simpa using h0, fun r hr => by simp at hr, by simp, fun r => by simp⟩
  simp only [if_true] at hmm
  subst hmm
  have hv0 : v0 = .slice (some a) len m := by simpa using h0
  refine ⟨some a, m, (List.range len).map S, by simpa using hv0, fun r hr => ?_, by simp; omega, fun r => ?_⟩
  · have hr' : r < len := by simpa using hr
    obtain ⟨q1, q2⟩ := hx r (by omega)
    obtain ⟨b, o, rfl⟩ := spot_none (hx 0 (by omega)).1
    rw [add_at] at q1
    exact ⟨b, o, rfl, by rw [q1]; simp [List.getD_eq_getElem?_getD, hr']⟩
  · by_cases hr : r < len
    · have := (hx r (by omega)).2
      simpa [List.getD_eq_getElem?_getD, hr] using this
    · simp [List.getD_eq_getElem?_getD, hr]
end
end Go.Proofs.Ytpploijlijnahaa
