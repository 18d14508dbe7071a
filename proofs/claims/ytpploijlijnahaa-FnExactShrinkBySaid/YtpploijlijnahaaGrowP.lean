/- A slice of pairs, of the call's own, that grows. -/
import Derived.Test.YtpploijlijnahaaPixKit
namespace Go
open Go.RowKit
section
variable {lo : Nat} {e : TypeId} {sz n : Nat} {w w' : World} {v : Value} {xs : List Value}
theorem World.ownsRow.keep (h : w.ownsRow lo e sz v n xs) (hk : ∀ k, v.ownBlock = some k → w'.heap[k]? = w.heap[k]?) : w'.ownsRow lo e sz v n xs := by
  refine ⟨h.1, ?_⟩
  rcases h.2 with h0 | ⟨g, cap, cur, h0, hg, hh, r⟩
  · exact .inl h0
  · exact .inr ⟨g, cap, cur, h0, hg, by rw [hk g (by rw [h0]; rfl)]; exact hh, r⟩
theorem World.ownsRow.ext (h : w.ownsRow lo e sz v n xs) (hx : w.Ext w') : w'.ownsRow lo e sz v n xs := h.keep fun _ hk => hx.block (h.lt _ hk).2
theorem World.ownsRow.ne {p : Nat} {cs : Array Value} {e' : TypeId} {fr : Nat × Nat} (h : w.ownsRow lo e sz v n xs) (ho : w.heap[p]? = some (.cells cs e' fr)) (he : e ≠ e') : some p ≠ v.ownBlock := by
  intro hp
  rcases h.2 with ⟨h0, _⟩ | ⟨g, cap, cur, h0, hg, hh, _⟩
  · rw [h0] at hp; cases hp
  · rw [h0] at hp
    simp only [Value.ownBlock, Option.some.injEq] at hp
    subst hp
    rw [hh] at ho
    simp only [Option.some.injEq, Obj.cells.injEq] at ho
    exact he ho.2.1
theorem World.ownsRow.setCell (h : w.ownsRow lo e sz v n xs) {a : Addr} (ha : some a.block ≠ v.ownBlock) (u : Value) : (w.setCell a u).ownsRow lo e sz v n xs :=
  h.keep fun k hk => Below.heap_setCell _ _ _ _ fun e => ha (by rw [hk, e])
theorem World.ownsRow.form (h : w.ownsRow lo e sz v n xs) : ∃ a cap, v = .slice a n cap ∧ n ≤ cap := by
  rcases h.2 with ⟨h0, hn⟩ | ⟨g, cap, cur, h0, _, _, hc, _⟩
  · exact ⟨none, 0, by rw [h0, hn], by omega⟩
  · exact ⟨_, cap, h0, hc⟩
theorem World.ownsRow.pushExt {w0 : World} {o : Obj} {w1 : World} (h : w.ownsRow w0.heap.size e sz v n xs) (hx : w0.Ext w) (hg : (w.alloc o).grownBy w1 v.ownBlock) : w0.Ext w1 :=
  (hx.alloc o).grown hg fun _ hk => (h.lt _ hk).1
theorem World.ownsRow.tag {a : Option Addr} {m cap : Nat} (h : w.ownsRow lo e sz (.slice a m cap) n xs) : Tag w a e := by
  intro b o s ha
  subst ha
  rcases h.2 with ⟨h0, _⟩ | ⟨g, cap', cur, hv, _, hh, _⟩
  · cases h0
  · simp only [Value.slice.injEq, Option.some.injEq, Addr.mk.injEq] at hv
    obtain ⟨⟨rfl, -, -⟩, -, -⟩ := hv
    exact ⟨cur, _, hh⟩
theorem World.ownsRow.own {a : Option Addr} {m cap : Nat} (h : w.ownsRow lo e sz (.slice a m cap) n xs) {i : Nat} (hi : i < n * sz) : ∃ b o, a = some ⟨b, o, none⟩ ∧ lo ≤ b ∧ b < w.heap.size ∧ w.cell? ⟨b, o + i, none⟩ = xs[i]? ∧ w.frozen? ⟨b, o + i, none⟩ = false := by
  obtain ⟨h1, h2⟩ := h
  rcases h2 with ⟨h0, hn⟩ | ⟨g, cap', cur, hv, hg, hh, hn, hcap, hs, ht⟩
  · subst hn; simp at hi
  · simp only [Value.slice.injEq] at hv
    obtain ⟨rfl, rfl, rfl⟩ := hv
    refine ⟨g, 0, rfl, hg, (Array.getElem?_eq_some_iff.1 hh).1, ?_, by simp [World.frozen?, hh]⟩
    rw [Nat.zero_add, ← ht, List.getElem?_take_of_lt hi]
    simp [World.cell?, hh]
end
end Go
namespace Go.Proofs.Ytpploijlijnahaa
open Go.RowKit
/-- A slice value owns these pairs. -/
def GrowP (lo : Nat) (e : TypeId) (w : World) (v : Value) (ps : List (Int × Int)) : Prop := w.ownsRow lo e 2 v ps.length ((flatP ps).map (Value.int .i64))
theorem flatP_append : ∀ (a b : List (Int × Int)), flatP (a ++ b) = flatP a ++ flatP b
  | [], b => rfl
  | p :: a, b => by simp [flatP, flatP_append a b]
section
variable {lo : Nat} {e : TypeId} {w w' : World} {v : Value} {ps : List (Int × Int)}
theorem GrowP.empty (w : World) (h : lo ≤ w.heap.size) : GrowP lo e (w.alloc (.cells #[] e)) (.slice (some ⟨w.heap.size, 0, none⟩) 0 0) [] := World.ownsRow_made w #[] 0 h (Nat.zero_le _) rfl
theorem GrowP.ext (h : GrowP lo e w v ps) (hx : w.Ext w') : GrowP lo e w' v ps := World.ownsRow.ext h hx
theorem GrowP.setCell (h : GrowP lo e w v ps) {a : Addr} (ha : some a.block ≠ v.ownBlock) (u : Value) : GrowP lo e (w.setCell a u) v ps := World.ownsRow.setCell h ha u
theorem GrowP.form (h : GrowP lo e w v ps) : ∃ a cap, v = .slice a ps.length cap ∧ ps.length ≤ cap := World.ownsRow.form h
theorem GrowP.push {p : Int × Int} {v' : Value} (h : w.ownsRow lo e 2 v' (ps.length + 1) ((flatP ps).map (Value.int .i64) ++ [.int .i64 p.1, .int .i64 p.2])) : GrowP lo e w v' (ps ++ [p]) := by
  unfold GrowP
  rw [flatP_append, List.map_append, List.length_append]
  exact h
theorem GrowP.own {a : Option Addr} {m cap : Nat} (h : GrowP lo e w (.slice a m cap) ps) : OwnP lo w.heap.size w a ps := by
  intro i hi
  obtain ⟨b, o, h1, h2, h3, h4, h5⟩ := World.ownsRow.own h (i := i) (by rw [flatP_len] at hi; omega)
  refine ⟨b, o, h1, h2, h3, ?_, h5⟩
  rw [h4, List.getElem?_map, List.getElem?_eq_getElem hi, List.getD_eq_getElem?_getD, List.getElem?_eq_getElem hi]
  rfl
end
end Go.Proofs.Ytpploijlijnahaa
