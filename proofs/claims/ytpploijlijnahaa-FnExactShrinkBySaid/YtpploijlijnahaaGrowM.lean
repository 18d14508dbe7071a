/- A slice of rows of integers, of the call's own, that grows row by row. -/
import Derived.Test.YtpploijlijnahaaGrowP
namespace Go
open Go.RowKit
theorem GrowOf.blockTag {α : Type} {f : α → Value} {lo : Nat} {e : TypeId} {w : World} {v : Value} {xs : List α} (h : GrowOf f lo e w v xs) {k : Nat} (hk : v.ownBlock = Option.some k) : ∃ cs fr, w.heap[k]? = Option.some (.cells cs e fr) := by
  rcases h.2 with ⟨h0, _⟩ | ⟨g, cap, cur, h0, _, hh, _⟩
  · rw [h0] at hk; cases hk
  · rw [h0] at hk
    simp only [Value.ownBlock, Option.some.injEq] at hk
    subst hk
    exact ⟨_, _, hh⟩
structure GrowM (lo : Nat) (TO TI : TypeId) (w : World) (v : Value) (A : Nat → Option Addr) (C : Nat → Nat) (m : List (List Int)) : Prop where
  outer : w.ownsRow lo TO 1 v m.length ((List.range m.length).map fun r => Value.slice (A r) (m.getD r []).length (C r))
  rows : ∀ r, r < m.length → GrowOf (Value.int .i64) lo TI w (.slice (A r) (m.getD r []).length (C r)) (m.getD r [])
  apart : ∀ r s b o b' o', r < m.length → s < m.length → r ≠ s → A r = some ⟨b, o, none⟩ → A s = some ⟨b', o', none⟩ → b ≠ b'
section
variable {lo : Nat} {TO TI : TypeId} {w w1 w3 w4 : World} {v v' : Value} {A : Nat → Option Addr} {C : Nat → Nat} {m : List (List Int)}
theorem GrowM.empty (w : World) (h : lo ≤ w.heap.size) : GrowM lo TO TI (w.alloc (.cells #[] TO)) (.slice (some ⟨w.heap.size, 0, none⟩) 0 0) (fun _ => none) (fun _ => 0) [] :=
  ⟨World.ownsRow_made w #[] 0 h (Nat.zero_le _) rfl, (fun r hr => by cases hr), (fun r s b o b' o' hr => by cases hr)⟩
theorem GrowM.ext (h : GrowM lo TO TI w v A C m) (hx : w.Ext w3) : GrowM lo TO TI w3 v A C m := ⟨World.ownsRow.ext h.outer hx, fun r hr => (h.rows r hr).ext hx, h.apart⟩
theorem GrowM.push {a : Option Addr} {c : Nat} {row : List Int} {o : Obj} (hne : TO ≠ TI) (h : GrowM lo TO TI w1 v A C m) (hx : w1.Ext w3) (hg : GrowOf (Value.int .i64) w1.heap.size TI w3 (.slice a row.length c) row) (hlo : lo ≤ w1.heap.size)
    (hgrow : (w3.alloc o).grownBy w4 v.ownBlock) (hown : w4.ownsRow lo TO 1 v' (m.length + 1) ((List.range m.length).map (fun r => Value.slice (A r) (m.getD r []).length (C r)) ++ [.slice a row.length c])) :
    GrowM lo TO TI w4 v' (fun r => if r = m.length then a else A r) (fun r => if r = m.length then c else C r) (m ++ [row]) := by
  have h3 := h.ext hx
  have getl : ∀ r, r < m.length → (m ++ [row]).getD r [] = m.getD r [] := fun r hr => by
    rw [List.getD_eq_getElem?_getD, List.getElem?_append_left hr, ← List.getD_eq_getElem?_getD]
  have getr : (m ++ [row]).getD m.length [] = row := by
    rw [List.getD_eq_getElem?_getD, List.getElem?_append_right (Nat.le_refl _), Nat.sub_self]
    rfl
  have keep : ∀ {lo' : Nat} {u : Value} {xs : List Int}, GrowOf (Value.int .i64) lo' TI w3 u xs → GrowOf (Value.int .i64) lo' TI w4 u xs := fun hu =>
    hu.keep fun k hk => by
      obtain ⟨cs, fr, hh⟩ := hu.blockTag hk
      have hlt : k < w3.heap.size := (Array.getElem?_eq_some_iff.1 hh).1
      have e1 := hgrow.block k (by simp; omega) (World.ownsRow.ne h3.outer hh hne)
      rw [e1]; exact heap_alloc_old w3 o hlt
  refine ⟨?_, fun r hr => ?_, fun r s b o' b' o'' hr hs hrs hA hB => ?_⟩
  · rw [List.length_append, List.length_singleton, List.range_succ, List.map_append]
    have e1 : ((List.range m.length).map fun r => Value.slice (if r = m.length then a else A r) ((m ++ [row]).getD r []).length (if r = m.length then c else C r)) = (List.range m.length).map fun r => Value.slice (A r) (m.getD r []).length (C r) :=
      List.map_congr_left fun r hr => by
        have hr' : r < m.length := by simpa using hr
        rw [if_neg (by omega), if_neg (by omega), getl r hr']
    rw [e1, List.map_cons, List.map_nil, if_pos rfl, if_pos rfl, getr]
    exact hown
  · rw [List.length_append, List.length_singleton] at hr
    by_cases e : r = m.length
    · subst e
      rw [if_pos rfl, if_pos rfl, getr]
      have hk := keep hg
      refine ⟨hk.1, ?_⟩
      rcases hk.2 with h0 | ⟨g, cap, cur, h0, hb, r⟩
      · exact .inl h0
      · exact .inr ⟨g, cap, cur, h0, Nat.le_trans hlo hb, r⟩
    · have hr' : r < m.length := by omega
      rw [if_neg e, if_neg e, getl r hr']
      exact keep (h3.rows r hr')
  · rw [List.length_append, List.length_singleton] at hr hs
    by_cases er : r = m.length
    · have es : s ≠ m.length := by omega
      rw [if_pos er] at hA
      rw [if_neg es] at hB
      have h1 := (hg.block (k := b) (by rw [hA]; rfl)).1
      have h2 := ((h.rows s (by omega)).block (k := b') (by rw [hB]; rfl)).2
      omega
    · rw [if_neg er] at hA
      by_cases es : s = m.length
      · rw [if_pos es] at hB
        have h1 := (hg.block (k := b') (by rw [hB]; rfl)).1
        have h2 := ((h.rows r (by omega)).block (k := b) (by rw [hA]; rfl)).2
        omega
      · rw [if_neg es] at hB
        exact h.apart r s b o' b' o'' (by omega) (by omega) hrs hA hB
theorem GrowM.grown {lo' : Nat} {E : TypeId} {sz n : Nat} {u : Value} {xs : List Value} (h : GrowM lo TO TI w v A C m) (hu : w.ownsRow lo' E sz u n xs) (h1 : E ≠ TO) (h2 : E ≠ TI) (hg : w.grownBy w3 u.ownBlock) : GrowM lo TO TI w3 v A C m := by
  refine ⟨?_, fun r hr => ?_, h.apart⟩
  · refine World.ownsRow.keep h.outer fun k hk => ?_
    rcases h.outer.2 with ⟨h0, _⟩ | ⟨g, cap, cur, h0, _, hh, _⟩
    · rw [h0] at hk; cases hk
    · rw [h0] at hk
      simp only [Value.ownBlock, Option.some.injEq] at hk
      subst hk
      exact hg.block _ (Array.getElem?_eq_some_iff.1 hh).1 (World.ownsRow.ne hu hh h1)
  · refine (h.rows r hr).keep fun k hk => ?_
    obtain ⟨cs, fr, hh⟩ := (h.rows r hr).blockTag hk
    exact hg.block _ (Array.getElem?_eq_some_iff.1 hh).1 (World.ownsRow.ne hu hh h2)
theorem GrowM.lower (h : GrowM lo TO TI w v A C m) {lo' : Nat} (hl : lo' ≤ lo) : GrowM lo' TO TI w v A C m := by
  refine ⟨⟨h.outer.1, ?_⟩, fun r hr => ⟨(h.rows r hr).1, ?_⟩, h.apart⟩
  · rcases h.outer.2 with h0 | ⟨g, cap, cur, h0, hb, r⟩
    · exact .inl h0
    · exact .inr ⟨g, cap, cur, h0, Nat.le_trans hl hb, r⟩
  · rcases (h.rows r hr).2 with h0 | ⟨g, cap, cur, h0, hb, r⟩
    · exact .inl h0
    · exact .inr ⟨g, cap, cur, h0, Nat.le_trans hl hb, r⟩
theorem GrowM.at {a : Option Addr} {n c : Nat} (h : GrowM lo TO TI w (.slice a n c) A C m) {y : Nat} (hy : y < m.length) : (∃ b o, a = some ⟨b, o, none⟩ ∧ w.cell? ⟨b, o + y, none⟩ = some (.slice (A y) (m.getD y []).length (C y))) ∧ ∀ x, x < (m.getD y []).length → ∃ b o, A y = some ⟨b, o, none⟩ ∧ w.cell? ⟨b, o + x, none⟩ = some (.int .i64 ((m.getD y []).getD x 0)) := by
  obtain ⟨b, o, h1, h2, h3, h4, _⟩ := World.ownsRow.own h.outer (i := y) (by omega)
  refine ⟨⟨b, o, h1, by rw [h4]; simp [hy]⟩, fun x hx => ?_⟩
  obtain ⟨b', o', h5, _, _, h6, _⟩ := GrowOf.own 0 (h.rows y hy) x hx
  exact ⟨b', o', h5, h6⟩
theorem GrowM.pushExt {w0 : World} {o : Obj} (h : GrowM w0.heap.size TO TI w1 v A C m) (hx0 : w0.Ext w1) (hx : w1.Ext w3) (hgrow : (w3.alloc o).grownBy w4 v.ownBlock) : w0.Ext w4 :=
  World.ownsRow.pushExt (World.ownsRow.ext h.outer hx) (hx0.trans hx) hgrow
theorem GrowM.mat {a : Option Addr} {n c : Nat} (hne : TO ≠ TI) (h : GrowM lo TO TI w (.slice a n c) A C m) : OwnMat lo w.heap.size w a A C m := by
  refine ⟨fun r hr => ?_, fun r hr => GrowOf.own 0 (h.rows r hr), h.apart⟩
  obtain ⟨b, o, h1, h2, h3, h4, _⟩ := World.ownsRow.own h.outer (i := r) (by omega)
  refine ⟨b, o, h1, h2, h3, by rw [h4]; simp [hr], fun s b' o' hs hA e => ?_⟩
  subst e
  obtain ⟨cs, fr, hh⟩ := (h.rows s hs).blockTag (k := b') (by rw [hA]; rfl)
  have := World.ownsRow.ne h.outer hh hne
  rw [h1] at this
  exact this rfl
end
/-- A table of numbers. -/
def grd (W H : Nat) (g : Nat → Nat → Int) : List (List Int) := (List.range H).map fun y => (List.range W).map fun x => g x y
def grdRow (g : Nat → Nat → Int) (y x : Nat) : List Int := (List.range x).map fun x => g x y
theorem grdRow_succ (g : Nat → Nat → Int) (y x : Nat) : grdRow g y (x + 1) = grdRow g y x ++ [g x y] := by simp [grdRow, List.range_succ]
theorem grdRow_len (g : Nat → Nat → Int) (y x : Nat) : (grdRow g y x).length = x := by simp [grdRow]
theorem grd_succ (W y : Nat) (g : Nat → Nat → Int) : grd W (y + 1) g = grd W y g ++ [grdRow g y W] := by simp [grd, grdRow, List.range_succ]
theorem grd_len (W H : Nat) (g : Nat → Nat → Int) : (grd W H g).length = H := by simp [grd]
theorem grd_row {W H : Nat} {g : Nat → Nat → Int} {y : Nat} (h : y < H) : (grd W H g).getD y [] = grdRow g y W := by
  unfold grd grdRow
  rw [List.getD_eq_getElem?_getD, List.getElem?_map, List.getElem?_eq_getElem (by simpa using h)]
  simp
theorem grdRow_at {g : Nat → Nat → Int} {y x W : Nat} (h : x < W) : (grdRow g y W).getD x 0 = g x y := by
  unfold grdRow
  rw [List.getD_eq_getElem?_getD, List.getElem?_map, List.getElem?_eq_getElem (by simpa using h)]
  simp
end Go
