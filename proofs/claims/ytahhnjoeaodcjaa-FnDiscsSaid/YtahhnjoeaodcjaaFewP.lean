/- FewDiscs: numbers of discs that pixels are in, written in place. -/
import Derived.Test.YtahhnjoeaodcjaaDscF
namespace Go.Proofs.Ytahhnjoeaodcjaa
open Go Go.RowKit
def clL (M : Nat) (c : Nat → Nat) : List Int := (List.range M).map fun p => ((c p : Nat) : Int)
theorem clL_len (M : Nat) (c : Nat → Nat) : (clL M c).length = M := by simp [clL]
theorem clL_at {M : Nat} {c : Nat → Nat} {p : Nat} (h : p < M) : (clL M c).getD p 0 = ((c p : Nat) : Int) := by
  unfold clL
  rw [List.getD_eq_getElem?_getD, List.getElem?_map, List.getElem?_range h]
  rfl
theorem clL_congr {M : Nat} {c c' : Nat → Nat} (h : ∀ p, p < M → c p = c' p) : clL M c = clL M c' := List.map_congr_left fun p hp => by rw [h p (List.mem_range.1 hp)]
theorem clL_set {M : Nat} {c c' : Nat → Nat} {i : Nat} {v : Int} (hi : i < M) (h1 : v = ((c' i : Nat) : Int)) (h2 : ∀ p, p < M → p ≠ i → c' p = c p) : (clL M c).set i v = clL M c' := by
  apply List.ext_getElem?
  intro p
  by_cases hp : p < M
  · rw [List.getElem?_set]
    have e' : (clL M c')[p]? = some ((c' p : Nat) : Int) := by unfold clL; rw [List.getElem?_map, List.getElem?_range hp]; rfl
    have e : (clL M c)[p]? = some ((c p : Nat) : Int) := by unfold clL; rw [List.getElem?_map, List.getElem?_range hp]; rfl
    rw [e', e]
    by_cases hq : i = p
    · subst hq
      rw [if_pos rfl, if_pos (by rw [clL_len]; exact hi), h1]
    · rw [if_neg hq, h2 p hp (fun e => hq e.symm)]
  · rw [List.getElem?_eq_none (by rw [List.length_set, clL_len]; omega), List.getElem?_eq_none (by rw [clL_len]; omega)]
def oneN (b : Bool) : Nat := if b then 1 else 0
/-- The first i pixels of one disc are counted, or taken away. -/
def upC (h : Nat → Nat → Bool) (k : Nat) (c : Nat → Nat) (i p : Nat) : Nat := if p < i then c p + oneN (h k p) else c p
def dnC (h : Nat → Nat → Bool) (k : Nat) (c : Nat → Nat) (i p : Nat) : Nat := if p < i then c p - oneN (h k p) else c p
theorem upC_zero (h : Nat → Nat → Bool) (k : Nat) (c : Nat → Nat) : upC h k c 0 = c := by funext p; simp [upC]
theorem dnC_zero (h : Nat → Nat → Bool) (k : Nat) (c : Nat → Nat) : dnC h k c 0 = c := by funext p; simp [dnC]
theorem upC_at (h : Nat → Nat → Bool) (k : Nat) (c : Nat → Nat) (i : Nat) : upC h k c i i = c i := by simp [upC]
theorem dnC_at (h : Nat → Nat → Bool) (k : Nat) (c : Nat → Nat) (i : Nat) : dnC h k c i i = c i := by simp [dnC]
theorem upC_next (h : Nat → Nat → Bool) (k : Nat) (c : Nat → Nat) (i : Nat) : upC h k c (i + 1) i = c i + oneN (h k i) := by simp [upC]
theorem dnC_next (h : Nat → Nat → Bool) (k : Nat) (c : Nat → Nat) (i : Nat) : dnC h k c (i + 1) i = c i - oneN (h k i) := by simp [dnC]
theorem upC_ne (h : Nat → Nat → Bool) (k : Nat) (c : Nat → Nat) {i p : Nat} (hp : p ≠ i) : upC h k c (i + 1) p = upC h k c i p := by
  unfold upC
  by_cases h1 : p < i
  · rw [if_pos h1, if_pos (by omega)]
  · rw [if_neg h1, if_neg (by omega)]
theorem dnC_ne (h : Nat → Nat → Bool) (k : Nat) (c : Nat → Nat) {i p : Nat} (hp : p ≠ i) : dnC h k c (i + 1) p = dnC h k c i p := by
  unfold dnC
  by_cases h1 : p < i
  · rw [if_pos h1, if_pos (by omega)]
  · rw [if_neg h1, if_neg (by omega)]
theorem cnt_succ (h : Nat → Nat → Bool) (k p : Nat) : cntH h (List.range (k + 1)) p = cntH h (List.range k) p + oneN (h k p) := by
  unfold cntH oneN
  rw [List.range_succ, List.countP_append, List.countP_cons, List.countP_nil]
  omega
theorem cnt_le (h : Nat → Nat → Bool) (k p : Nat) : cntH h (List.range k) p ≤ k := by
  unfold cntH
  exact Nat.le_trans List.countP_le_length (by simp)
theorem less_oneN (h : Nat → Nat → Bool) (c : Nat → Nat) (k p : Nat) : lessH h c k p = c p - oneN (h k p) := by
  unfold lessH oneN
  split <;> simp_all
/-- The few of n discs. -/
def fewR (h : Nat → Nat → Bool) (m n k : Nat) : (Nat → Nat) × List Nat := fewS h m (List.range n) k
def fewD (kind : Int) (W H : Nat) (l : List Bool) : List (Int × Int × Int) := pickD (dscL kind W H l) (fewL (hasH kind W (dscL kind W H l)) (H * W) (List.range (dscL kind W H l).length))
theorem fewR_zero (h : Nat → Nat → Bool) (m n : Nat) : fewR h m n 0 = (cntH h (List.range n), []) := rfl
theorem range_getD {n k : Nat} (h : k < n) : (List.range n).getD k 0 = k := by simp [List.getD_eq_getElem?_getD, h]
theorem fewR_yes {h : Nat → Nat → Bool} {m n k : Nat} (hk : k < n) (hn : needB h m (fewR h m n k).1 k = true) : fewR h m n (k + 1) = ((fewR h m n k).1, (fewR h m n k).2 ++ [k]) := by
  unfold fewR at *
  rw [fewS, range_getD hk, if_pos hn]
theorem fewR_no {h : Nat → Nat → Bool} {m n k : Nat} (hk : k < n) (hn : needB h m (fewR h m n k).1 k = false) : fewR h m n (k + 1) = (lessH h (fewR h m n k).1 k, (fewR h m n k).2) := by
  unfold fewR at *
  rw [fewS, range_getD hk, if_neg (by rw [hn]; decide)]
theorem fewR_le {h : Nat → Nat → Bool} {m n : Nat} (p : Nat) : ∀ k, (fewR h m n k).1 p ≤ n
  | 0 => cnt_le h n p
  | k + 1 => by
    have ih : (fewS h m (List.range n) k).1 p ≤ n := fewR_le (h := h) (m := m) (n := n) p k
    show (fewS h m (List.range n) (k + 1)).1 p ≤ n
    rw [fewS]
    split
    · exact ih
    · show lessH h _ _ p ≤ n
      rw [less_oneN]
      exact Nat.le_trans (Nat.sub_le _ _) ih
theorem fewR_len {h : Nat → Nat → Bool} {m n : Nat} : ∀ k, (fewR h m n k).2.length ≤ k
  | 0 => Nat.le_refl _
  | k + 1 => by
    have ih : (fewS h m (List.range n) k).2.length ≤ k := fewR_len (h := h) (m := m) (n := n) k
    show (fewS h m (List.range n) (k + 1)).2.length ≤ k + 1
    rw [fewS]
    split
    · simp only [List.length_append, List.length_singleton]; omega
    · exact Nat.le_trans ih (Nat.le_succ _)
theorem fewR_pos {h : Nat → Nat → Bool} {m n k p : Nat} (hk : k < n) (hp : h k p = true) : 0 < (fewR h m n k).1 p := by
  have e := fewS_cnt (h := h) (m := m) (js := List.range n) p k (by simp; omega)
  have hd : (List.range n).drop k = k :: (List.range n).drop (k + 1) := by
    rw [List.drop_eq_getElem_cons (by simpa using hk)]
    simp
  show 0 < (fewS h m (List.range n) k).1 p
  rw [e, hd]
  unfold cntH
  rw [List.countP_cons, hp]
  simp only [if_true]
  omega
theorem fewD_eq (kind : Int) (W H : Nat) (l : List Bool) : fewD kind W H l = pickD (dscL kind W H l) (fewR (hasH kind W (dscL kind W H l)) (H * W) (dscL kind W H l).length (dscL kind W H l).length).2 := by
  unfold fewD fewL fewR
  rw [List.length_range]
/-- The numbers under way. -/
def CtSt (w : World) (g : Nat) (e : TypeId) (M : Nat) (c : Nat → Nat) (wr : World) : Prop := Wrote (fun k => k = g) w wr ∧ BlkOf (Value.int .i64) wr g e (clL M c)
section
variable {w wr w' : World} {g : Nat} {e : TypeId} {M : Nat} {c c' : Nat → Nat}
theorem CtSt.ext (h : CtSt w g e M c wr) (hx : wr.Ext w') : CtSt w g e M c w' := ⟨h.1.trans (hx.wrote _), h.2.ext hx⟩
theorem CtSt.cell (h : CtSt w g e M c wr) {i : Nat} (hi : i < M) : wr.cell? ⟨g, i, none⟩ = some (.int .i64 ((c i : Nat) : Int)) ∧ wr.frozen? ⟨g, i, none⟩ = false := by
  refine ⟨?_, h.2.free i⟩
  rw [h.2.cell 0 (by rw [clL_len]; exact hi), clL_at hi]
theorem CtSt.set (h : CtSt w g e M c wr) {i : Nat} {v : Int} (hi : i < M) (h1 : v = ((c' i : Nat) : Int)) (h2 : ∀ p, p < M → p ≠ i → c' p = c p) : CtSt w g e M c' (wr.setCell ⟨g, i, none⟩ (.int .i64 v)) :=
  ⟨h.1.setCell (p := ⟨g, i, none⟩) rfl _, by rw [← clL_set hi h1 h2]; exact h.2.set i v⟩
theorem CtSt.congr (h : CtSt w g e M c wr) (hc : ∀ p, p < M → c p = c' p) : CtSt w g e M c' wr := ⟨h.1, by rw [← clL_congr hc]; exact h.2⟩
end
/-- .. with a list of discs under way. -/
structure FwSt (w : World) (g : Nat) (e : TypeId) (M : Nat) (v : Value) (ds : List (Int × Int × Int)) (c : Nat → Nat) (wr : World) : Prop where
  ct : CtSt w g e M c wr
  d : GrowD w.heap.size 98 wr v ds
section
variable {w wr w' : World} {g : Nat} {e : TypeId} {M : Nat} {v : Value} {ds : List (Int × Int × Int)} {c c' : Nat → Nat}
theorem FwSt.ext (h : FwSt w g e M v ds c wr) (hx : wr.Ext w') : FwSt w g e M v ds c w' := ⟨h.ct.ext hx, h.d.ext hx⟩
theorem FwSt.set (h : FwSt w g e M v ds c wr) (hg : g < w.heap.size) {i : Nat} {z : Int} (hi : i < M) (h1 : z = ((c' i : Nat) : Int)) (h2 : ∀ p, p < M → p ≠ i → c' p = c p) : FwSt w g e M v ds c' (wr.setCell ⟨g, i, none⟩ (.int .i64 z)) :=
  ⟨h.ct.set hi h1 h2, World.ownsRow.setCell h.d (a := ⟨g, i, none⟩) (fun e => by
    have := (World.ownsRow.lt h.d g e.symm).1
    omega) _⟩
theorem FwSt.congr (h : FwSt w g e M v ds c wr) (hc : ∀ p, p < M → c p = c' p) : FwSt w g e M v ds c' wr := ⟨h.ct.congr hc, h.d⟩
theorem FwSt.push {v' : Value} {d : Int × Int × Int} (h : FwSt w g e M v ds c wr) (hg : g < w.heap.size) (hgr : wr.grownBy w' v.ownBlock) (ho : w'.ownsRow w.heap.size 98 3 v' (ds.length + 1) ((flatD ds).map (Value.int .i64) ++ [.int .i64 d.1, .int .i64 d.2.1, .int .i64 d.2.2])) : FwSt w g e M v' (ds ++ [d]) c w' :=
  ⟨⟨h.ct.1.grown hgr fun k hk => .inr (World.ownsRow.lt h.d k hk).1, h.ct.2.keep (hgr.block g h.ct.2.lt fun e => by
    have := (World.ownsRow.lt h.d g e.symm).1
    omega)⟩, GrowD.push ho⟩
end
end Go.Proofs.Ytahhnjoeaodcjaa
