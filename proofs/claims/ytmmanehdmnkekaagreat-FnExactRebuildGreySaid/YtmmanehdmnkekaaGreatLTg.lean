/- Opening the argument of a law: a tree of a grey picture. -/
import Derived.Test.YtmmanehdmnkekaaGreatLaws
namespace Go.Proofs.YtmmanehdmnkekaaGreat
open Go.ChangeShapes Go.WideShapes Go.RowKit Go.Deep Go.Joins
section
variable {H : Type} {enc : TypeId × Value → H} {P : Program} {w : World} {base : Nat} {held : Bool}
theorem open_intl {t e : TypeId} {fuel : Nat} {v0 : Value} {x : DataW H × List MemPlace} (ht : P.underlying t = some (.slice e)) (he : P.underlying e = some (.int .i64)) (hc : P.cellsOf e = 1)
    (h : DataW.trod enc P w base (fun _ => true) held fuel t [v0] = some x) :
    ∃ (a : Option Addr) (c : Nat) (zs : List Int), v0 = .slice a zs.length c ∧ RowI w a zs ∧ zs.length ≤ maxLen := by
  rcases open_ints ht he hc h with ⟨h0, _⟩ | ⟨a, len, cap, zs, h0, _, hl, hm, hz, _, hx, _⟩
  · exact ⟨none, 0, [], by simpa using h0, fun r hr => by simp at hr, by simp⟩
  simp only [if_true] at hz
  have hv0 : v0 = .slice (some a) len cap := by simpa using h0
  have hlt : (zs.take len).length = len := by rw [List.length_take]; omega
  refine ⟨some a, cap, zs.take len, by rw [hlt]; exact hv0, fun r hr => ?_, by rw [hlt]; omega⟩
  rw [hlt] at hr
  obtain ⟨b, o, rfl⟩ := spot_none (hx 0 (by omega))
  have := hx r (by omega)
  rw [add_at] at this
  refine ⟨b, o, rfl, ?_⟩
  rw [this]
  have e : (zs.take len).getD r 0 = zs.getD r 0 := by simp [List.getD_eq_getElem?_getD, hr]
  rw [e]
end
end Go.Proofs.YtmmanehdmnkekaaGreat
