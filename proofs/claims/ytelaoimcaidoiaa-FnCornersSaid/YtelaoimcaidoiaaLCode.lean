/- What the laws read: bytes, of their arguments. -/
import Derived.Test.YtelaoimcaidoiaaGenA
import Derived.Test.YtelaoimcaidoiaaLaws
namespace Go.Proofs.Ytelaoimcaidoiaa
open Go.ChangeShapes Go.WideShapes Go.RowKit Go.Deep Go.Joins
section
variable {H : Type} {enc : TypeId × Value → H} {P : Program} {w : World} {base : Nat} {held : Bool}
theorem open_code {t e : TypeId} {fuel : Nat} {v0 : Value} {x : DataW H × List MemPlace} (ht : P.underlying t = some (.slice e)) (he : P.underlying e = some (.int .u8)) (hc : P.cellsOf e = 1)
    (h : DataW.trod enc P w base (fun _ => true) held fuel t [v0] = some x) :
    ∃ (a : Option Addr) (c : Nat) (zs : List Int), v0 = .slice a zs.length c ∧ CodeAt w a zs := by
  rcases open_ints ht he hc h with ⟨h0, _⟩ | ⟨a, len, cap, zs, h0, _, hl, hm, hz, _, hx, hwf⟩
  · exact ⟨none, 0, [], by simpa using h0, (⟨fun r hr => by simp at hr, fun z hz => by simp at hz, by simp⟩ : RowU w none [] ∧ (∀ z, z ∈ ([] : List Int) → 0 ≤ z ∧ z ≤ 255) ∧ ([] : List Int).length ≤ maxLen)⟩
  simp only [if_true] at hz
  have hv0 : v0 = .slice (some a) len cap := by simpa using h0
  have hlt : (zs.take len).length = len := by rw [List.length_take]; omega
  refine ⟨some a, cap, zs.take len, by rw [hlt]; exact hv0, ?_⟩
  unfold CodeAt
  refine ⟨fun r hr => ?_, fun z hzm => ?_, by rw [hlt]; omega⟩
  · rw [hlt] at hr
    obtain ⟨b, o, rfl⟩ := spot_none (hx 0 (by omega))
    have := hx r (by omega)
    rw [add_at] at this
    refine ⟨b, o, rfl, ?_⟩
    rw [this]
    have e : (zs.take len).getD r 0 = zs.getD r 0 := by simp [List.getD_eq_getElem?_getD, hr]
    rw [e]
  · have := hwf z (List.mem_of_mem_take hzm)
    simp [Lit.wf, IntKind.min, IntKind.max, IntKind.signed, IntKind.bits] at this
    omega
end
end Go.Proofs.Ytelaoimcaidoiaa
