/- Grey pictures that grow within a mask: the reference's walk. -/
import Derived.Test.YtldbabigjfkdlaaGreyK
namespace Go
open Go.RowKit
theorem GrowOf.raise {α : Type} {f : α → Value} {lo lo' : Nat} {e : TypeId} {w : World} {g n cap : Nat} {xs : List α} (h : GrowOf f lo e w (.slice (Option.some ⟨g, 0, Option.none⟩) n cap) xs) (hg : lo' ≤ g) : GrowOf f lo' e w (.slice (Option.some ⟨g, 0, Option.none⟩) n cap) xs := by
  obtain ⟨h1, h2⟩ := h
  refine ⟨h1, ?_⟩
  rcases h2 with h0 | ⟨g', c, cur, hv, -, r⟩
  · exact .inl h0
  · simp only [Value.slice.injEq, Option.some.injEq, Addr.mk.injEq] at hv
    obtain ⟨⟨rfl, -, -⟩, rfl, rfl⟩ := hv
    exact .inr ⟨g, cap, cur, rfl, hg, r⟩
end Go
namespace Go.Proofs.Ytldbabigjfkdlaa
open Go Go.RowKit
/-- A list of the call's own that is written in place. -/
structure RcSt (wS : World) (g cap n : Nat) (l : List Int) (wr : World) : Prop where
  wrote : Wrote (fun k => k = g ∨ wS.heap.size ≤ k) wS wr
  grow : GrowOf (Value.int .i64) 0 2 wr (.slice (some ⟨g, 0, none⟩) n cap) l
  len : l.length = n
theorem RcSt.ext {wS : World} {g cap n : Nat} {l : List Int} {wr w' : World} (h : RcSt wS g cap n l wr) (hx : wr.Ext w') : RcSt wS g cap n l w' := ⟨h.wrote.trans (hx.wrote _), h.grow.ext hx, h.len⟩
theorem RcSt.at {wS : World} {g cap n : Nat} {l : List Int} {wr : World} (h : RcSt wS g cap n l wr) {i : Nat} (hi : i < n) :
    wr.cell? ⟨g, i, none⟩ = some (.int .i64 (l.getD i 0)) ∧ wr.frozen? ⟨g, i, none⟩ = false ∧ ∀ z, RcSt wS g cap n (l.set i z) (wr.setCell ⟨g, i, none⟩ (.int .i64 z)) := by
  obtain ⟨g', cap', hv, -, hc, hf, hset⟩ := GrowOf.atI 0 h.grow (i := i) (by rw [h.len]; exact hi)
  simp only [Value.slice.injEq, Option.some.injEq, Addr.mk.injEq] at hv
  obtain ⟨⟨rfl, -, -⟩, -, -⟩ := hv
  exact ⟨hc, hf, fun z => ⟨h.wrote.setCell (p := ⟨g, i, none⟩) (.inl rfl) _, hset z, by rw [List.length_set, h.len]⟩⟩
theorem RcSt.x {w wS : World} {g cap n : Nat} {l : List Int} {wr : World} (h : RcSt wS g cap n l wr) (hx : w.Ext wS) (hg : w.heap.size ≤ g) : w.Ext wr := hx.wroteNew h.wrote fun k hk hs => by have := hx.size; omega
theorem RcSt.start {wS : World} {lo g cap n : Nat} {l : List Int} (h : GrowOf (Value.int .i64) lo 2 wS (.slice (some ⟨g, 0, none⟩) n cap) l) (hl : l.length = n) : RcSt wS g cap n l wS := ⟨Wrote.refl _ _, h.raise (Nat.zero_le _), hl⟩
theorem set_self {l : List Int} {k : Nat} : l.set k (l.getD k 0) = l := by
  apply List.ext_getElem?
  intro i
  rw [List.getElem?_set]
  by_cases e : k = i
  · subst e
    rw [if_pos rfl]
    split
    · rename_i h; rw [List.getD_eq_getElem?_getD, List.getElem?_eq_getElem h]; rfl
    · rename_i h; rw [List.getElem?_eq_none (by omega)]
  · rw [if_neg e]
theorem wrap_small {n : Int} (h0 : 0 ≤ n) (h1 : n ≤ 9000000000) : wrap64 n = n := by
  unfold wrap64
  omega
def mxK (a b : Int) : Int := if b < a then a else b
theorem l00Min_any (a b : Int) (w : World) : Calls Try.prog 185 #[.int .i64 a, .int .i64 b] w fun e w' => e = .returned (.int .i64 (mnI a b)) ∧ w.Ext w' := by
  unfold mnI
  by_cases h : a < b
  · rw [if_pos h]
    go_enter Try.func185, Try.ntmps185
    go_wp2
    go_ret
    exact ⟨rfl, .refl _⟩
  · rw [if_neg h]
    go_enter Try.func185, Try.ntmps185
    go_wp2
    go_ret
    exact ⟨rfl, .refl _⟩
theorem l00MaxK_any (a b : Int) (w : World) : Calls Try.prog 197 #[.int .i64 a, .int .i64 b] w fun e w' => e = .returned (.int .i64 (mxK a b)) ∧ w.Ext w' := by
  unfold mxK
  by_cases h : b < a
  · rw [if_pos h]
    go_enter Try.func197, Try.ntmps197
    go_wp2
    go_ret
    exact ⟨rfl, .refl _⟩
  · rw [if_neg h]
    go_enter Try.func197, Try.ntmps197
    go_wp2
    go_ret
    exact ⟨rfl, .refl _⟩
end Go.Proofs.Ytldbabigjfkdlaa
