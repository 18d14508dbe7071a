/- An element is drawn: it is valid. -/
import Derived.Test.YtelaoimcaidoiaaGenE
namespace Go.Proofs.Ytelaoimcaidoiaa
open Go Go.RowKit
theorem befB_iff {p q : Int × Int} : befB p q = true ↔ p.2 < q.2 ∨ (p.2 = q.2 ∧ p.1 < q.1) := by
  unfold befB
  rw [Bool.or_eq_true, Bool.and_eq_true, decide_eq_true_iff, decide_eq_true_iff, decide_eq_true_iff]
theorem befB_trans {p q r : Int × Int} (h1 : befB p q = true) (h2 : befB q r = true) : befB p r = true := by
  rw [befB_iff] at *
  omega
theorem befB_total {p q : Int × Int} (h1 : befB p q = false) (h2 : p ≠ q) : befB q p = true := by
  rw [befB_iff]
  have h3 : ¬ (p.2 < q.2 ∨ (p.2 = q.2 ∧ p.1 < q.1)) := fun h => by rw [befB_iff.2 h] at h1; cases h1
  obtain ⟨a, b⟩ := p
  obtain ⟨c, d⟩ := q
  simp only [ne_eq, Prod.mk.injEq] at h2 h3 ⊢
  omega
theorem putL_cons (p o : Int × Int) (ps : List (Int × Int)) : putL (p :: ps) o = if befB p o then p :: putL ps o else if p = o then p :: ps else o :: p :: ps := by
  by_cases hb : befB p o = true
  · have e : putAt o (p :: ps) = putAt o ps + 1 := by
      show (if befB p o then putAt o ps + 1 else 0) = _
      rw [if_pos hb]
    unfold putL
    simp only [e, if_pos hb, List.length_cons, List.getD_cons_succ, Nat.add_lt_add_iff_right, List.take_succ_cons, List.drop_succ_cons]
    split <;> simp
  · have e : putAt o (p :: ps) = 0 := by
      show (if befB p o then putAt o ps + 1 else 0) = _
      rw [if_neg hb]
    unfold putL
    simp only [e, if_neg hb]
    simp
theorem putL_mem {o x : Int × Int} : ∀ {ps : List (Int × Int)}, x ∈ putL ps o → x ∈ ps ∨ x = o
  | [], h => by simp [putL, putAt] at h; exact .inr h
  | p :: ps, h => by
    rw [putL_cons] at h
    split at h
    · rcases List.mem_cons.1 h with rfl | h
      · exact .inl (List.mem_cons_self ..)
      · rcases putL_mem h with h | h
        · exact .inl (List.mem_cons_of_mem _ h)
        · exact .inr h
    · split at h
      · exact .inl h
      · rcases List.mem_cons.1 h with rfl | h
        · exact .inr rfl
        · exact .inl h
theorem putL_sorted {o : Int × Int} : ∀ {ps : List (Int × Int)}, ps.Pairwise (fun a b => befB a b = true) → (putL ps o).Pairwise (fun a b => befB a b = true)
  | [], _ => by simp [putL, putAt]
  | p :: ps, h => by
    rw [List.pairwise_cons] at h
    rw [putL_cons]
    split
    · rename_i hb
      rw [List.pairwise_cons]
      refine ⟨fun x hx => ?_, putL_sorted h.2⟩
      rcases putL_mem hx with hx | rfl
      · exact h.1 x hx
      · exact hb
    · rename_i hb
      split
      · exact List.pairwise_cons.2 h
      · rename_i hne
        have hop := befB_total (by simpa using hb) hne
        refine List.pairwise_cons.2 ⟨fun x hx => ?_, List.pairwise_cons.2 h⟩
        rcases List.mem_cons.1 hx with rfl | hx
        · exact hop
        · exact befB_trans hop (h.1 x hx)
theorem putL_len (ps : List (Int × Int)) (o : Int × Int) : 1 ≤ (putL ps o).length ∧ ps.length ≤ (putL ps o).length ∧ (putL ps o).length ≤ ps.length + 1 := by
  have := putAt_le o ps
  unfold putL
  split
  · omega
  · simp
    omega
/-- Sorted offsets near by. -/
def Offs (ps : List (Int × Int)) : Prop := ps.Pairwise (fun a b => befB a b = true) ∧ ∀ x, x ∈ ps → offOk x = true
theorem Offs.put {ps : List (Int × Int)} (h : Offs ps) {o : Int × Int} (ho : offOk o = true) : Offs (putL ps o) :=
  ⟨putL_sorted h.1, fun x hx => by
    rcases putL_mem hx with hx | rfl
    · exact h.2 x hx
    · exact ho⟩
theorem Offs.ok {ps : List (Int × Int)} (h : Offs ps) (h1 : 1 ≤ ps.length) (h2 : ps.length ≤ 50) : elemOk ps = true := by
  unfold elemOk
  rw [inB_true.2 (by omega), Bool.and_true, elemOk_all]
  intro i hi
  unfold elemAt
  rw [h.2 _ (getD_mem hi), Bool.true_and]
  by_cases h0 : i = 0
  · rw [decide_eq_true h0, Bool.true_or]
  · rw [decide_eq_false h0, Bool.false_or]
    have := List.pairwise_iff_getElem.1 h.1 (i - 1) i (by omega) hi (by omega)
    rw [List.getD_eq_getElem?_getD, List.getD_eq_getElem?_getD, List.getElem?_eq_getElem hi, List.getElem?_eq_getElem (show i - 1 < ps.length by omega)]
    exact this
theorem _root_.Go.Two.set1 {w : World} {p : Nat} {e : TypeId} {u v : Value} (h : Two w p e u v) (b : Value) : Two (w.setCell ⟨p, 1, none⟩ b) p e u b := by
  unfold Two at *
  simp [World.setCell, Array.getElem?_modify, h]
section
variable {w : World} {p q2 q4 g cap n : Nat} {ps : List (Int × Int)} {wr w' : World}
theorem SrcSt.apart {wB : World} {lo sz m k : Nat} {xs : List Value} (h : SrcSt wB p n wr) (ho : wr.ownsRow lo 33 sz (.slice (some ⟨g, 0, none⟩) m cap) k xs) : g ≠ p := by
  obtain ⟨a, c, m, seed, zs, h1, -⟩ := h.src
  have := World.ownsRow.ne ho h1 (by decide)
  exact fun e => this (by rw [← e]; rfl)
end
/-- A drawn element. -/
def ElemRet (w : World) (e : Ending) (w' : World) : Prop := ∃ (a : Option Addr) (c : Nat) (os : List (Int × Int)), e = .returned (.agg #[.slice a os.length c]) ∧ elemOk os = true ∧ (∀ x, x ∈ os → -2 ≤ x.1 ∧ x.1 ≤ 2 ∧ -2 ≤ x.2 ∧ x.2 ≤ 2) ∧ os.length ≤ 4 ∧ w.Ext w' ∧ RowP w' a os
def Nears (ps : List (Int × Int)) : Prop := Offs ps ∧ ∀ x, x ∈ ps → -2 ≤ x.1 ∧ x.1 ≤ 2 ∧ -2 ≤ x.2 ∧ x.2 ≤ 2
theorem Nears.put {ps : List (Int × Int)} (h : Nears ps) {x y : Int} (hx : -2 ≤ x ∧ x ≤ 2 ∧ -2 ≤ y ∧ y ≤ 2) : Nears (putL ps (x, y)) :=
  ⟨h.1.put (by unfold offOk; rw [inB_true.2 (by simp only; omega), inB_true.2 (by simp only; omega)]; rfl), fun z hz => by
    rcases putL_mem hz with hz | rfl
    · exact h.2 z hz
    · exact hx⟩
end Go.Proofs.Ytelaoimcaidoiaa
