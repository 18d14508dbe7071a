/- FnTrees: operations that are passed over, many at once. -/
import Derived.Test.YtkpgelhmeokemaaTurF
import Derived.BigQuiet
namespace Go.Proofs.Ytkpgelhmeokemaa
open Go Go.RowKit
def undB : Option Value → Bool
  | some (.tuple l) => l.size == 0
  | _ => false
theorem undB_true {v : Option Value} (h : undB v = true) : v = some undef := by
  unfold undB at h
  split at h
  · rename_i l
    have := Array.eq_empty_of_size_eq_zero (eq_of_beq h)
    subst this
    rfl
  · cases h
def dstB (a : Act) : Option Tmp → Bool
  | some d => undB a.tmps[d]?
  | none => true
theorem put_undef {a : Act} {d : Option Tmp} (h : dstB a d = true) : a.put d undef = a := by
  cases d with
  | none => rfl
  | some d =>
    have h := undB_true h
    obtain ⟨t, ds⟩ := a
    unfold Act.put
    simp only [Act.mk.injEq, and_true]
    apply Array.ext_getElem?
    intro i
    rw [Array.getElem?_setIfInBounds]
    split
    · rename_i e
      subst e
      split
      · exact h.symm
      · rename_i hn
        exact (Array.getElem?_eq_none (by omega)).symm
    · rfl
def skipsB (ops : Array Oper) (a : Act) : List Oper → Nat → Bool
  | _, 0 => true
  | [], _ + 1 => false
  | o :: rest, n + 1 => (Region.wanted o (yielded ops a.tmps) == false) && dstB a o.dst && skipsB ops a rest n
theorem wpQuiet_skips {P : Program} {ops : Array Oper} {C : World → Prop} {Q : Act → Prop} {a : Act} : ∀ (n : Nat) (rest : List Oper), skipsB ops a rest n = true → wpQuiet P ops C Q (rest.drop n) a → wpQuiet P ops C Q rest a
  | 0, rest, _, h => h
  | n + 1, [], h, _ => by cases h
  | n + 1, o :: rest, h, hk => by
    unfold skipsB at h
    rw [Bool.and_eq_true, Bool.and_eq_true] at h
    obtain ⟨⟨h1, h2⟩, h3⟩ := h
    unfold wpQuiet
    rw [if_neg (by rw [eq_of_beq h1]; exact Bool.false_ne_true), put_undef h2]
    exact wpQuiet_skips n rest h3 hk
end Go.Proofs.Ytkpgelhmeokemaa
