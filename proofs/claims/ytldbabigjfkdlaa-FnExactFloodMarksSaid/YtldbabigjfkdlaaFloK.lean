/- FloodMarks: the program's table and waves under way. -/
import Derived.Test.YtldbabigjfkdlaaFloV
namespace Go.Proofs.Ytldbabigjfkdlaa
open Go Go.RowKit
def wavL (W : Nat) (l : List (Nat × Int)) : List (Int × Int × Int) := l.map fun p => (((p.1 % W : Nat) : Int), ((p.1 / W : Nat) : Int), p.2)
theorem wavL_len (W : Nat) (l : List (Nat × Int)) : (wavL W l).length = l.length := by simp [wavL]
theorem wavL_at (W : Nat) (l : List (Nat × Int)) {k : Nat} (h : k < l.length) : (wavL W l).getD k (0, 0, 0) = ((((l.getD k (0, 0)).1 % W : Nat) : Int), (((l.getD k (0, 0)).1 / W : Nat) : Int), (l.getD k (0, 0)).2) := by
  unfold wavL
  rw [List.getD_eq_getElem?_getD, List.getD_eq_getElem?_getD, List.getElem?_map, List.getElem?_eq_getElem h]
  rfl
theorem wavL_erase (W : Nat) (l : List (Nat × Int)) (k : Nat) : wavL W (l.eraseIdx k) = (wavL W l).eraseIdx k := map_eraseIdx _ _ _
theorem wavL_push (W : Nat) (l : List (Nat × Int)) (p : Nat × Int) : wavL W (l ++ [p]) = wavL W l ++ [(((p.1 % W : Nat) : Int), ((p.1 / W : Nat) : Int), p.2)] := by unfold wavL; rw [List.map_append]; rfl
theorem floTo_none {marks nums : List Int} (hn : ∀ k, 0 ≤ marks.getD k 0) : anyPos marks = !((floTo marks nums marks.length).length == 0) := by
  unfold anyPos floTo
  rw [List.length_map]
  cases h : (marks.any fun z => decide (0 < z))
  · have : ((List.range marks.length).filter fun k => !(marks.getD k 0 == 0)) = [] := List.filter_eq_nil_iff.2 fun k hk => by
      rw [List.mem_range] at hk
      rw [List.any_eq_false] at h
      have h1 := h _ (List.getElem_mem hk)
      have h2 := hn k
      rw [List.getD_eq_getElem?_getD, List.getElem?_eq_getElem hk] at h2 ⊢
      simp only [Option.getD_some] at h2 ⊢
      simp only [decide_eq_true_eq] at h1
      have : marks[k] = 0 := by omega
      simp [this]
    rw [this]
    rfl
  · rw [List.any_eq_true] at h
    obtain ⟨z, hz, hp⟩ := h
    obtain ⟨k, hk, rfl⟩ := List.mem_iff_getElem.1 hz
    simp only [decide_eq_true_eq] at hp
    have hm : k ∈ (List.range marks.length).filter fun k => !(marks.getD k 0 == 0) := by
      rw [List.mem_filter, List.mem_range]
      refine ⟨hk, ?_⟩
      rw [List.getD_eq_getElem?_getD, List.getElem?_eq_getElem hk]
      simp only [Option.getD_some, Bool.not_eq_true', beq_eq_false_iff_ne]
      omega
    have hl := List.length_pos_of_mem hm
    have : (((List.range marks.length).filter fun k => !(marks.getD k 0 == 0)).length == 0) = false := by rw [beq_eq_false_iff_ne]; omega
    rw [this]
    rfl
structure WvSt (S : Nat → Prop) (lo hi : Nat) (wS : World) (a : Option Addr) (A : Nat → Option Addr) (C : Nat → Nat) (W H : Nat) (l : List Int) (ws : List (Int × Int × Int)) (v8 : Value) (wr : World) : Prop where
  wrote : Wrote S wS wr
  mat : OwnMat lo hi wr a A C (grl W H l)
  len : l.length = H * W
  wv : GrowD hi 164 wr v8 ws
  own : ∀ k, v8.ownBlock = some k → S k
  tab : ∀ k, lo ≤ k → k < hi → S k
  new : ∀ k, wS.heap.size ≤ k → S k
  hiw : hi ≤ wS.heap.size
/-- What a part of the way may write. -/
def WvS (lo hi : Nat) (v8 : Value) (w : World) (k : Nat) : Prop := (lo ≤ k ∧ k < hi) ∨ v8.ownBlock = some k ∨ w.heap.size ≤ k
section
variable {S : Nat → Prop} {lo hi : Nat} {wS : World} {a : Option Addr} {A : Nat → Option Addr} {C : Nat → Nat} {W H : Nat} {l : List Int} {ws : List (Int × Int × Int)} {v8 : Value} {wr : World}
theorem ownsRow_block {lo : Nat} {e : TypeId} {size n : Nat} {v : Value} {xs : List Value} {w : World} (h : w.ownsRow lo e size v n xs) {k : Nat} (hk : v.ownBlock = some k) : lo ≤ k ∧ k < w.heap.size := by
  rcases h.2 with ⟨h0, _⟩ | ⟨g, cap, cur, h0, hg, hh, _⟩
  · rw [h0] at hk; cases hk
  · rw [h0] at hk
    simp only [Value.ownBlock, Option.some.injEq] at hk
    subst hk
    exact ⟨hg, (Array.getElem?_eq_some_iff.1 hh).1⟩
theorem WvSt.ext {w' : World} (h : WvSt S lo hi wS a A C W H l ws v8 wr) (hx : wr.Ext w') : WvSt S lo hi wS a A C W H l ws v8 w' :=
  ⟨h.wrote.trans (hx.wrote _), h.mat.ext hx, h.len, h.wv.ext hx, h.own, h.tab, h.new, h.hiw⟩
theorem WvSt.size (h : WvSt S lo hi wS a A C W H l ws v8 wr) : hi ≤ wr.heap.size := Nat.le_trans h.hiw h.wrote.size
theorem WvSt.rebase {wI : World} (h : WvSt S lo hi wS a A C W H l ws v8 wr) (hx : wr.Ext wI) : WvSt (WvS lo hi v8 wI) lo hi wI a A C W H l ws v8 wI :=
  ⟨Wrote.refl _ _, h.mat.ext hx, h.len, h.wv.ext hx, fun _ hk => .inr (.inl hk), fun _ h1 h2 => .inl ⟨h1, h2⟩, fun _ hk => .inr (.inr hk), Nat.le_trans h.size hx.size⟩
theorem WvSt.join {w0 wI : World} {l2 : List Int} {ws2 : List (Int × Int × Int)} {u8 : Value} (h1 : WvSt S lo hi wS a A C W H l2 ws2 u8 w0) (hx : w0.Ext wI) (h2 : WvSt (WvS lo hi u8 wI) lo hi wI a A C W H l ws v8 wr) : WvSt S lo hi wS a A C W H l ws v8 wr := by
  have key : ∀ k, WvS lo hi u8 wI k → S k := fun k hk => by
    rcases hk with h | h | h
    · exact h1.tab k h.1 h.2
    · exact h1.own k h
    · exact h1.new k (Nat.le_trans h1.wrote.size (Nat.le_trans hx.size h))
  exact ⟨(h1.wrote.trans (hx.wrote _)).trans (h2.wrote.mono fun k _ hk => key k hk), h2.mat, h2.len, h2.wv, fun k hk => key k (h2.own k hk), h1.tab, h1.new, h1.hiw⟩
theorem matKeepB {w w' : World} {m : List (List Int)} (h : OwnMat lo hi w a A C m) (hk : ∀ k, lo ≤ k → k < hi → w'.heap[k]? = w.heap[k]?) (hs : w.heap.size ≤ w'.heap.size) (ho : w'.os = w.os) (ht : w'.tape = w.tape) (hp : w'.output = w.output) : OwnMat lo hi w' a A C m :=
  h.wrote (S := fun k => ¬ (lo ≤ k ∧ k < hi)) ⟨ho, ht, hp, hs, fun k hk' hs' => by
    have := Classical.not_not.1 hs'
    exact hk k this.1 this.2⟩ fun k h1 h2 h3 => h3 ⟨h1, h2⟩
theorem WvSt.grown {w' : World} {v' : Value} {ws' : List (Int × Int × Int)} (h : WvSt S lo hi wS a A C W H l ws v8 wr) (hg : wr.grownBy w' v8.ownBlock) (hv : GrowD hi 164 w' v' ws') (hat : v'.ownBlock = v8.ownBlock ∨ ∃ k, v'.ownBlock = some k ∧ wr.heap.size ≤ k) : WvSt S lo hi wS a A C W H l ws' v' w' := by
  refine ⟨Wrote.grown h.wrote hg fun k hk => .inl (h.own k hk), matKeepB h.mat (fun k h1 h2 => hg.block k (Nat.lt_of_lt_of_le h2 h.size) fun e => ?_) hg.size hg.os hg.tape hg.output, h.len, hv, fun k hk => ?_, h.tab, h.new, h.hiw⟩
  · have := (ownsRow_block h.wv e.symm).1
    omega
  · rcases hat with e | ⟨j, e, hj⟩
    · exact h.own k (e.symm.trans hk)
    · have e1 : j = k := Option.some.inj (e.symm.trans hk)
      exact h.new k (by have := h.wrote.size; omega)
theorem WvSt.push {wa w1 : World} {v' : Value} {x y z : Int} (h : WvSt S lo hi wS a A C W H l ws v8 wr) (hx : wr.Ext wa) (hgrow : wa.grownBy w1 v8.ownBlock) (hown : w1.ownsRow hi 164 3 v' (ws.length + 1) ((flatD ws).map (Value.int .i64) ++ [.int .i64 x, .int .i64 y, .int .i64 z])) (hat : v'.ownBlock = v8.ownBlock ∨ v'.ownBlock = some wa.heap.size) :
    WvSt S lo hi wS a A C W H l (ws ++ [(x, y, z)]) v' w1 :=
  (h.ext hx).grown hgrow (GrowD.push (d := (x, y, z)) hown) (hat.imp id fun e => ⟨_, e, Nat.le_refl _⟩)
theorem WvSt.cut {w1 : World} {g8 L c8 L' c' b : Nat} (h : WvSt S lo hi wS a A C W H l ws (.slice (some ⟨g8, 0, none⟩) L c8) wr) (hg : wr.grownBy w1 (some g8)) (hv : GrowD hi 164 w1 (.slice (some ⟨g8, 0, none⟩) L' c') (ws.eraseIdx b)) :
    WvSt S lo hi wS a A C W H l (ws.eraseIdx b) (.slice (some ⟨g8, 0, none⟩) L' c') w1 := h.grown hg hv (.inl rfl)
theorem WvSt.put (h : WvSt S lo hi wS a A C W H l ws v8 wr) {x y : Nat} (hx : x < W) (hy : y < H) :
    ∃ b o, A y = some ⟨b, o, none⟩ ∧ wr.cell? ⟨b, o + x, none⟩ = some (.int .i64 (l.getD (y * W + x) 0)) ∧ wr.frozen? ⟨b, o + x, none⟩ = false ∧ (∃ b1 o1, a = some ⟨b1, o1, none⟩ ∧ wr.cell? ⟨b1, o1 + y, none⟩ = some (.slice (some ⟨b, o, none⟩) W (C y))) ∧
      ∀ wq z, wr.Ext wq → WvSt S lo hi wS a A C W H (l.set (y * W + x) z) ws v8 (wq.setCell ⟨b, o + x, none⟩ (.int .i64 z)) := by
  have hy' : y < (grl W H l).length := by rw [grl_len]; exact hy
  have hx' : x < ((grl W H l).getD y []).length := by rw [grl_row hy]; exact hx
  obtain ⟨b, o, hA, h1, h2, h3, h4⟩ := h.mat.rows y hy' x hx'
  obtain ⟨b1, o1, e1, -, -, e2, -⟩ := h.mat.outer y hy'
  rw [grl_at hx hy] at h3
  rw [grl_row hy, hA] at e2
  refine ⟨b, o, hA, h3, h4, ⟨b1, o1, e1, e2⟩, fun wq z hq => ?_⟩
  have hp := OwnMat.put (h.mat.ext hq) hy' hx' hA z
  rw [grl_set hx hy h.len] at hp
  refine ⟨(h.wrote.trans (hq.wrote _)).setCell (p := ⟨b, o + x, none⟩) (h.tab b h1 h2) _, hp, by rw [List.length_set, h.len], ?_, h.own, h.tab, h.new, h.hiw⟩
  have hwq := h.wv.ext hq
  exact World.ownsRow.keep hwq fun k hk => Below.heap_setCell _ _ _ _ (by
    have := (ownsRow_block h.wv hk).1
    simp only
    omega)
theorem WvSt.rd (h : WvSt S lo hi wS a A C W H l ws v8 wr) (hp : 0 < ws.length) : ∃ g8 c8, v8 = .slice (some ⟨g8, 0, none⟩) ws.length c8 ∧ ws.length ≤ c8 ∧
    ∀ j, j < ws.length → wr.cell? ⟨g8, j * 3, none⟩ = some (.int .i64 (ws.getD j (0, 0, 0)).1) ∧ wr.cell? ⟨g8, j * 3 + 1, none⟩ = some (.int .i64 (ws.getD j (0, 0, 0)).2.1) ∧ wr.cell? ⟨g8, j * 3 + 2, none⟩ = some (.int .i64 (ws.getD j (0, 0, 0)).2.2) := by
  have hh := h.wv
  obtain ⟨a', c', e', hc'⟩ := h.wv.form
  rcases h.wv.2 with ⟨h0, h1⟩ | ⟨g, cap, cur, h0, hg, hr⟩
  · rw [e'] at h0
    simp only [Value.slice.injEq] at h0
    omega
  · rw [e'] at h0
    simp only [Value.slice.injEq, true_and] at h0
    obtain ⟨rfl, rfl⟩ := h0
    refine ⟨g, c', e', hc', fun j hj => ?_⟩
    rw [e'] at hh
    obtain ⟨b, o, e1, c0, c1, c2⟩ := (GrowD.own hh).row.at hj
    simp only [Option.some.injEq, Addr.mk.injEq, and_true] at e1
    obtain ⟨rfl, rfl⟩ := e1
    rw [Nat.zero_add] at c0 c1 c2
    exact ⟨c0, c1, c2⟩
theorem wvAt {w w' : World} {p c x y : Nat} (hm : OwnMat lo hi w a A C (grl W H l)) (hp : w.cell? ⟨p, 0, none⟩ = some (.slice a H c)) (hx : x < W) (hy : y < H) (hW : W ≤ 64) (hH : H ≤ 64) (hxx : w.Ext w') :
    Calls Try.prog 121 #[.pointer (some ⟨p, 0, none⟩), .agg #[.int .i64 x, .int .i64 y]] w' fun e w'' => e = .returned (.int .i64 (l.getD (y * W + x) 0)) ∧ w'.Ext w'' := by
  have h := gAt_any p a c A C (grl W H l) x y w' (by rw [grl_len]; exact hy) (by rw [grl_row hy]; exact hx) (by rw [grl_len]; omega) (by rw [grl_row hy]; omega) (by rw [grl_len]; exact hxx.cell hp) (hm.ext hxx).mat
  rw [grl_at hx hy] at h
  exact h
theorem wvHas {w w' : World} {p c : Nat} {x y : Int} (hm : OwnMat lo hi w a A C (grl W H l)) (hp : w.cell? ⟨p, 0, none⟩ = some (.slice a H c)) (hW0 : 0 < W) (hH0 : 0 < H) (hW : W ≤ 64) (hH : H ≤ 64) (hxx : w.Ext w') :
    Calls Try.prog 124 #[.pointer (some ⟨p, 0, none⟩), .agg #[.int .i64 x, .int .i64 y]] w' fun e w'' => e = .returned (.bool (hasB W H x y)) ∧ w'.Ext w'' := by
  have h := gHas_any p a c A C (grl W H l) x y w' (by rw [grl_len]; omega) (by rw [grl_len]; omega) (by rw [grl_row (by omega)]; omega) (by rw [grl_len]; exact hxx.cell hp) (hm.ext hxx).mat
  rw [grl_len, grl_row (by omega)] at h
  exact h
end
end Go.Proofs.Ytldbabigjfkdlaa
