/- FloodMarks: what the reference's lists are under way. -/
import Derived.Test.YtldbabigjfkdlaaGreyC
import Derived.Test.YtldbabigjfkdlaaFloP
import Derived.Test.YtldbabigjfkdlaaRowK
namespace Go.Proofs.Ytldbabigjfkdlaa
open Go Go.RowKit
theorem mxK_J (a b : Int) : mxK a b = mxJ a b := by unfold mxK mxJ; split <;> split <;> omega
theorem FloR.stop {W H : Nat} {nums : List Int} {s : FloS} {res : List Int} (h : FloR W H nums s res) (h0 : s.2.length = 0) : s.1 = res := by
  cases h with
  | done => rfl
  | more h1 _ => omega
theorem FloR.next {W H : Nat} {nums : List Int} {s : FloS} {res : List Int} (h : FloR W H nums s res) (h0 : 0 < s.2.length) : FloR W H nums (floStep W H nums s) res := by
  cases h with
  | done => simp at h0
  | more _ h1 => exact h1
def posL (l : List (Nat × Int)) : List Int := l.map fun p => (p.1 : Int)
def heiL (l : List (Nat × Int)) : List Int := l.map (·.2)
theorem posL_len (l : List (Nat × Int)) : (posL l).length = l.length := by simp [posL]
theorem heiL_len (l : List (Nat × Int)) : (heiL l).length = l.length := by simp [heiL]
/-- The marks under way (written in place), and two lists that grow and are cut. -/
structure FlSt (lo m g cap n : Nat) (wS : World) (l ps hs : List Int) (v8 v9 : Value) (wr : World) : Prop where
  wrote : Wrote (fun k => (lo ≤ k ∧ k < m) ∨ wS.heap.size ≤ k) wS wr
  grow : GrowOf (Value.int .i64) lo 2 wr (.slice (some ⟨g, 0, none⟩) n cap) l
  len : l.length = n
  hg : lo ≤ g ∧ g < m ∧ m ≤ wS.heap.size
  r8 : GrowOf (Value.int .i64) lo 2 wr v8 ps
  r9 : GrowOf (Value.int .i64) lo 2 wr v9 hs
  s8 : ∀ k, v8.ownBlock = some k → ((lo ≤ k ∧ k < m) ∨ wS.heap.size ≤ k) ∧ k ≠ g
  s9 : ∀ k, v9.ownBlock = some k → ((lo ≤ k ∧ k < m) ∨ wS.heap.size ≤ k) ∧ k ≠ g
  ne : ∀ k, v8.ownBlock = some k → v9.ownBlock ≠ some k
section
variable {lo m g cap n g8 L c8 : Nat} {wS : World} {l ps hs : List Int} {v8 v9 : Value} {wr : World}
theorem FlSt.ext {w' : World} (h : FlSt lo m g cap n wS l ps hs v8 v9 wr) (hx : wr.Ext w') : FlSt lo m g cap n wS l ps hs v8 v9 w' := ⟨h.wrote.trans (hx.wrote _), h.grow.ext hx, h.len, h.hg, h.r8.ext hx, h.r9.ext hx, h.s8, h.s9, h.ne⟩
theorem FlSt.swap (h : FlSt lo m g cap n wS l ps hs v8 v9 wr) : FlSt lo m g cap n wS l hs ps v9 v8 wr := ⟨h.wrote, h.grow, h.len, h.hg, h.r9, h.r8, h.s9, h.s8, fun k h1 h2 => h.ne k h2 h1⟩
theorem FlSt.size (h : FlSt lo m g cap n wS l ps hs v8 v9 wr) : lo ≤ wr.heap.size := by have := h.wrote.size; have := h.hg; omega
theorem FlSt.x (h : FlSt lo m g cap n wS l ps hs v8 v9 wr) {w : World} (hx : w.Ext wS) (hl : w.heap.size ≤ lo) : w.Ext wr := hx.wroteNew h.wrote fun k hk hs => by have := hx.size; omega
theorem FlSt.rebase {w3 : World} (h : FlSt lo m g cap n wS l ps hs v8 v9 wr) (hx : wr.Ext w3) : FlSt lo wr.heap.size g cap n w3 l ps hs v8 v9 w3 := by
  have h1 := h.wrote.size
  have h2 := h.hg
  have h3 := hx.size
  exact ⟨Wrote.refl _ _, h.grow.ext hx, h.len, ⟨h2.1, by omega, h3⟩, h.r8.ext hx, h.r9.ext hx, fun k hk => ⟨.inl (h.r8.block hk), (h.s8 k hk).2⟩, fun k hk => ⟨.inl (h.r9.block hk), (h.s9 k hk).2⟩, h.ne⟩
theorem FlSt.at (h : FlSt lo m g cap n wS l ps hs v8 v9 wr) {i : Nat} (hi : i < n) :
    wr.cell? ⟨g, i, none⟩ = some (.int .i64 (l.getD i 0)) ∧ wr.frozen? ⟨g, i, none⟩ = false ∧ ∀ z, FlSt lo m g cap n wS (l.set i z) ps hs v8 v9 (wr.setCell ⟨g, i, none⟩ (.int .i64 z)) := by
  obtain ⟨g', cap', hv, -, hc, hf, hset⟩ := GrowOf.atI 0 h.grow (i := i) (by rw [h.len]; exact hi)
  simp only [Value.slice.injEq, Option.some.injEq, Addr.mk.injEq] at hv
  obtain ⟨⟨rfl, -, -⟩, -, -⟩ := hv
  refine ⟨hc, hf, fun z => ⟨h.wrote.setCell (p := ⟨g, i, none⟩) (.inl ⟨h.hg.1, h.hg.2.1⟩) _, hset z, by rw [List.length_set, h.len], h.hg, ?_, ?_, h.s8, h.s9, h.ne⟩⟩
  · exact h.r8.setCell (fun e => (h.s8 g e.symm).2 rfl) _
  · exact h.r9.setCell (fun e => (h.s9 g e.symm).2 rfl) _
theorem FlSt.rd8 (h : FlSt lo m g cap n wS l ps hs v8 v9 wr) (hp : 0 < ps.length) : ∃ g8 c8, v8 = .slice (some ⟨g8, 0, none⟩) ps.length c8 ∧ ps.length ≤ c8 ∧ ∀ j, j < ps.length → wr.cell? ⟨g8, j, none⟩ = some (.int .i64 (ps.getD j 0)) := by
  obtain ⟨a', c', e', hc'⟩ := h.r8.form
  obtain ⟨g8, c8, e, -, -, hc⟩ := h.r8.some hp
  rw [e'] at e
  simp only [Value.slice.injEq, true_and] at e
  obtain ⟨rfl, rfl⟩ := e
  exact ⟨g8, c', e', hc', fun j hj => hc 0 j hj⟩
theorem FlSt.push8 {wa w1 : World} {v' : Value} {x : Int} (h : FlSt lo m g cap n wS l ps hs v8 v9 wr) (hx : wr.Ext wa) (hgrow : wa.grownBy w1 v8.ownBlock) (hown : w1.ownsRow lo 2 1 v' (ps.length + 1) (ps.map (Value.int .i64) ++ [.int .i64 x])) (hat : v'.ownBlock = v8.ownBlock ∨ v'.ownBlock = some wa.heap.size) :
    FlSt lo m g cap n wS l (ps ++ [x]) hs v' v9 w1 := by
  have h' := h.ext hx
  have hz := h'.wrote.size
  have hg := h.hg
  have key : ∀ k, some k ≠ v8.ownBlock → k < wa.heap.size → w1.heap[k]? = wa.heap[k]? := fun k h1 h2 => hgrow.block k h2 h1
  refine ⟨Wrote.grown h'.wrote hgrow fun k hk => .inl (h.s8 k hk).1, h'.grow.keep fun k hk => key k (fun e => ?_) (h'.grow.block hk).2, h.len, hg, GrowOf.push hown, h'.r9.keep fun k hk => key k (fun e => h.ne k e.symm hk) (h'.r9.block hk).2, fun k hk => ?_, h.s9, fun k hk h9 => ?_⟩
  · have e1 : g = k := Option.some.inj hk
    exact (h.s8 k e.symm).2 e1.symm
  · rcases hat with e | e
    · exact h.s8 k (e.symm.trans hk)
    · have e1 : wa.heap.size = k := Option.some.inj (e.symm.trans hk)
      exact ⟨.inr (by omega), by omega⟩
  · rcases hat with e | e
    · exact h.ne k (e.symm.trans hk) h9
    · have e1 : wa.heap.size = k := Option.some.inj (e.symm.trans hk)
      have := (h'.r9.block h9).2
      omega
theorem FlSt.cut8 {w6 w7 : World} {v v' : Value} {b : Nat} (h : FlSt lo m g cap n wS l ps hs v8 v9 wr) (hb : b < ps.length) (hx : wr.Ext w6) (hv : GrowOf (Value.int .i64) wr.heap.size 2 w6 v (ps.take b)) (hgrow : w6.grownBy w7 v.ownBlock)
    (hown : w7.ownsRow wr.heap.size 2 1 v' (b + (ps.length - (b + 1))) ((ps.take b).map (Value.int .i64) ++ (ps.map (Value.int .i64)).drop (b + 1))) (hat : v'.ownBlock = v.ownBlock ∨ v'.ownBlock = some w6.heap.size) :
    FlSt lo m g cap n wS l (ps.eraseIdx b) hs v' v9 w7 := by
  have h' := h.ext hx
  have hz := h.wrote.size
  have hz6 := hx.size
  have hg := h.hg
  have hs := h.size
  have key : ∀ k, k < wr.heap.size → w7.heap[k]? = w6.heap[k]? := fun k h2 => hgrow.block k (by omega) fun e => by
    have := (hv.block e.symm).1
    omega
  have hnew : ∀ k, v'.ownBlock = some k → wr.heap.size ≤ k := fun k hk => by
    rcases hat with e | e
    · exact (hv.block (e.symm.trans hk)).1
    · have e1 : w6.heap.size = k := Option.some.inj (e.symm.trans hk)
      omega
  have hlen : (ps.eraseIdx b).length = b + (ps.length - (b + 1)) := by rw [List.length_eraseIdx, if_pos hb]; omega
  refine ⟨Wrote.grown h'.wrote hgrow fun k hk => .inl (.inr (by have := (hv.block hk).1; omega)), h'.grow.keep fun k hk => key k (h.grow.block hk).2, h.len, hg, ?_, h'.r9.keep fun k hk => key k (h.r9.block hk).2, fun k hk => ?_, h.s9, fun k hk h9 => ?_⟩
  · unfold GrowOf
    rw [hlen, eraseIdx_cut, List.map_append, List.map_drop]
    obtain ⟨h1, h2⟩ := hown
    refine ⟨h1, ?_⟩
    rcases h2 with h0 | ⟨g', c, cur, hv', hb', r⟩
    · exact .inl h0
    · exact .inr ⟨g', c, cur, hv', by omega, r⟩
  · have := hnew k hk
    exact ⟨.inr (by omega), by omega⟩
  · have := hnew k hk
    have := (h.r9.block h9).2
    omega
/-- What cutting one out needs: the cells ahead and behind. -/
theorem FlSt.front (h : FlSt lo m g cap n wS l ps hs (.slice (some ⟨g8, 0, none⟩) L c8) v9 wr) (b : Nat) : RowI wr (some ⟨g8, 0, none⟩) (ps.take b) := fun i hi => by
  rw [List.length_take] at hi
  obtain ⟨g', c', e, -, -, hc⟩ := h.r8.some (by omega)
  simp only [Value.slice.injEq, Option.some.injEq, Addr.mk.injEq, and_true] at e
  obtain ⟨rfl, -, -⟩ := e
  refine ⟨g8, 0, rfl, ?_⟩
  rw [Nat.zero_add, hc 0 i (by omega), List.getD_eq_getElem?_getD, List.getD_eq_getElem?_getD, List.getElem?_take_of_lt (by omega)]
theorem FlSt.back (h : FlSt lo m g cap n wS l ps hs (.slice (some ⟨g8, 0, none⟩) L c8) v9 wr) {b : Nat} (hL : L = ps.length) (hb : b ≤ L) :
    ∀ j u, ((ps.map (Value.int .i64)).drop b)[j]? = some u → wr.cell? ((⟨g8, fromAt c8 b 1, none⟩ : Addr).add j) = some u := by
  subst hL
  have := World.ownsRow.restCells h.r8 hb
  rw [Nat.mul_one] at this
  exact this
end
end Go.Proofs.Ytldbabigjfkdlaa
