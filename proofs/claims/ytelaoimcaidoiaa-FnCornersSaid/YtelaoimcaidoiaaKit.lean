/- Small laws on worlds, cells, slices that grow. -/
import Derived.Test.YtelaoimcaidoiaaLaws
namespace Go
open Go.RowKit
@[simp, go_sem] theorem World.ext_refl (w : World) : w.Ext w := .refl w
@[simp, go_sem] theorem World.ext_over {w w' : World} (x : World) (h : w.Ext w') : w.Ext (w'.over x) := h.over x
@[simp, go_sem] theorem World.ext_drew {w w' : World} (h : w.Ext w') : w.Ext w'.drew := h.drew
@[simp, go_sem] theorem World.ext_drewN {w w' : World} (n : Nat) (h : w.Ext w') : w.Ext (w'.drewN n) := h.drewN n
@[simp, go_sem] theorem World.ext_alloc {w w' : World} (o : Obj) (h : w.Ext w') : w.Ext (w'.alloc o) := h.alloc o
theorem World.Ext.rule {w : World} {a : Addr} {v : Value} (h : w.cell? a = some v) : ∀ w', w.Ext w' → w'.cell? a = some v := fun _ hx => hx.cell h
/-- Block 'p' has just two cells. -/
def Two (w : World) (p : Nat) (e : TypeId) (u v : Value) : Prop := w.heap[p]? = some (.cells #[u, v] e (0, 0))
section
variable {w w' : World} {p : Nat} {e : TypeId} {u v : Value}
theorem Two.cell0 (h : Two w p e u v) : w.cell? ⟨p, 0, none⟩ = some u := by unfold Two at h; simp [World.cell?, h]
theorem Two.cell1 (h : Two w p e u v) : w.cell? ⟨p, 1, none⟩ = some v := by unfold Two at h; simp [World.cell?, h]
theorem Two.free (h : Two w p e u v) (i : Nat) : w.frozen? ⟨p, i, none⟩ = false := by unfold Two at h; simp [World.frozen?, h]
theorem Two.lt (h : Two w p e u v) : p < w.heap.size := (Array.getElem?_eq_some_iff.1 h).1
theorem Two.keep (h : Two w p e u v) (hk : w'.heap[p]? = w.heap[p]?) : Two w' p e u v := by unfold Two at *; rw [hk, h]
theorem Two.ext (h : Two w p e u v) (hx : w.Ext w') : Two w' p e u v := h.keep (hx.block h.lt)
theorem Two.set (h : Two w p e u v) (a b : Value) : Two ((w.setCell ⟨p, 0, none⟩ a).setCell ⟨p, 1, none⟩ b) p e a b := by
  unfold Two at *
  simp [World.setCell, Array.getElem?_modify, h]
theorem Two.other (h : Two w p e u v) {a : Addr} (ha : a.block ≠ p) (x : Value) : Two (w.setCell a x) p e u v := h.keep (Below.heap_setCell _ _ _ _ (Ne.symm ha))
theorem Two.new (w : World) (u v : Value) (e : TypeId) (p : Nat) (hp : p = w.heap.size) : Two (w.alloc (.cells #[u, v] e)) p e u v := by
  subst hp
  show (w.heap.push _)[w.heap.size]? = _
  simp
end
theorem Res.store {α : Type} {f : α → Value} {d : α} {w W1 : World} {p : Nat} {T : TypeId} {v0 : Value} {lo : Nat} {a : Option Addr} {xs : List α} (v : Value) (hX : w.Ext W1) (hp : w.heap.size ≤ p) (hone : One W1 p T v0) (hlo : p < lo) (ho : OwnOf f d lo W1.heap.size W1 a xs) :
    W1.cell? ⟨p, 0, none⟩ = some v0 ∧ W1.frozen? ⟨p, 0, none⟩ = false ∧ (W1.setCell ⟨p, 0, none⟩ v).cell? ⟨p, 0, none⟩ = some v ∧ Hid (w.Ext (W1.setCell ⟨p, 0, none⟩ v) ∧ OwnOf f d w.heap.size (W1.setCell ⟨p, 0, none⟩ v).heap.size (W1.setCell ⟨p, 0, none⟩ v) a xs) :=
  ⟨hone.cell, hone.free, (hone.set v).cell, hX.setCell (p := ⟨p, 0, none⟩) hp v,
    (ho.wrote (S := fun b => b = p) (Wrote.setCell (S := fun b => b = p) (Wrote.refl _ W1) (p := ⟨p, 0, none⟩) rfl v) (fun k h1 h2 => by omega)).mono (lo' := w.heap.size) (hi' := (W1.setCell ⟨p, 0, none⟩ v).heap.size) (by omega) (by simp)⟩
structure PixSt (w : World) (p : Nat) (T : TypeId) (wr : World) : Prop where
  x : w.Ext wr
  one : One wr p T (.slice none 0 0)
theorem PixSt.ext {w : World} {p : Nat} {T : TypeId} {w1 w2 : World} (h : PixSt w p T w1) (hx : w1.Ext w2) : PixSt w p T w2 := ⟨h.x.trans hx, h.one.ext hx⟩
theorem PixSt.push {α : Type} {f : α → Value} {w : World} {p : Nat} {T e : TypeId} {w3 w1 : World} {v : Value} {xs : List α} {o : Obj} (h : PixSt w p T w3) (hg : GrowOf f w.heap.size e w3 v xs) (hne : e ≠ T) (hgrow : (w3.alloc o).grownBy w1 v.ownBlock) : PixSt w p T w1 :=
  ⟨hg.pushExt h.x hgrow, (h.one.ext ((World.Ext.refl _).alloc o)).grown hgrow (hg.ne h.one hne)⟩
theorem cell_one_at {w : World} {v : Value} {e : TypeId} {p : Nat} (hp : p = w.heap.size) : ∀ (j : Nat) (u : Value), [v][j]? = some u → (w.alloc (.cells #[v] e)).cell? ((⟨p, 0, none⟩ : Addr).add j) = some u := by
  subst hp
  exact cell_one_new _ _ _
theorem cell_two_at {w : World} {u v : Value} {e : TypeId} {p : Nat} (hp : p = w.heap.size) : ∀ (j : Nat) (x : Value), [u, v][j]? = some x → (w.alloc (.cells #[u, v] e)).cell? ((⟨p, 0, none⟩ : Addr).add j) = some x := by
  subst hp
  intro j x hj
  rw [Addr.add_mk]
  match j, hj with
  | 0, hj => simp at hj; subst hj; simp [go_sem]
  | 1, hj => simp at hj; subst hj; simp [go_sem]
  | j + 2, hj => simp at hj
end Go
namespace Go.Proofs.Ytelaoimcaidoiaa
open Go.RowKit
def spotV (p : Int × Int) : Value := .agg #[.int .i64 p.1, .int .i64 p.2]
theorem take_next {L : List Bool} {k : Nat} (h : k < L.length) : L.take (k + 1) = L.take k ++ [L.getD k false] := by
  rw [List.take_succ_eq_append_getElem h, List.getD_eq_getElem?_getD, List.getElem?_eq_getElem h]
  rfl
theorem Try.infoBoolP : (Try.prog.info? 4).map (fun i => (i.zero, i.size, i.bytes)) = some (some (.bool false), 1, 1) := by kernel_rfl
end Go.Proofs.Ytelaoimcaidoiaa
namespace Go
open Go.RowKit
section
variable {lo : Nat} {e : TypeId} {sz n : Nat} {w w' : World} {v : Value} {xs : List Value}
theorem World.ownsRow.keep (h : w.ownsRow lo e sz v n xs) (hk : ∀ k, v.ownBlock = some k → w'.heap[k]? = w.heap[k]?) : w'.ownsRow lo e sz v n xs := by
  refine ⟨h.1, ?_⟩
  rcases h.2 with h0 | ⟨g, cap, cur, h0, hg, hh, r⟩
  · exact .inl h0
  · exact .inr ⟨g, cap, cur, h0, hg, by rw [hk g (by rw [h0]; rfl)]; exact hh, r⟩
theorem World.ownsRow.ext (h : w.ownsRow lo e sz v n xs) (hx : w.Ext w') : w'.ownsRow lo e sz v n xs := h.keep fun _ hk => hx.block (h.lt _ hk).2
theorem World.ownsRow.ne {p : Nat} {cs : Array Value} {e' : TypeId} {fr : Nat × Nat} (h : w.ownsRow lo e sz v n xs) (ho : w.heap[p]? = some (.cells cs e' fr)) (he : e ≠ e') : some p ≠ v.ownBlock := by
  intro hp
  rcases h.2 with ⟨h0, _⟩ | ⟨g, cap, cur, h0, hg, hh, _⟩
  · rw [h0] at hp; cases hp
  · rw [h0] at hp
    simp only [Value.ownBlock, Option.some.injEq] at hp
    subst hp
    rw [hh] at ho
    simp only [Option.some.injEq, Obj.cells.injEq] at ho
    exact he ho.2.1
theorem World.ownsRow.setCell (h : w.ownsRow lo e sz v n xs) {a : Addr} (ha : some a.block ≠ v.ownBlock) (u : Value) : (w.setCell a u).ownsRow lo e sz v n xs :=
  h.keep fun k hk => Below.heap_setCell _ _ _ _ fun e => ha (by rw [hk, e])
theorem World.ownsRow.form (h : w.ownsRow lo e sz v n xs) : ∃ a cap, v = .slice a n cap ∧ n ≤ cap := by
  rcases h.2 with ⟨h0, hn⟩ | ⟨g, cap, cur, h0, _, _, hc, _⟩
  · exact ⟨none, 0, by rw [h0, hn], by omega⟩
  · exact ⟨_, cap, h0, hc⟩
theorem World.ownsRow.pushExt {w0 : World} {o : Obj} {w1 : World} (h : w.ownsRow w0.heap.size e sz v n xs) (hx : w0.Ext w) (hg : (w.alloc o).grownBy w1 v.ownBlock) : w0.Ext w1 :=
  (hx.alloc o).grown hg fun _ hk => (h.lt _ hk).1
theorem World.ownsRow.tag {a : Option Addr} {m cap : Nat} (h : w.ownsRow lo e sz (.slice a m cap) n xs) : Tag w a e := by
  intro b o s ha
  subst ha
  rcases h.2 with ⟨h0, _⟩ | ⟨g, cap', cur, hv, _, hh, _⟩
  · cases h0
  · simp only [Value.slice.injEq, Option.some.injEq, Addr.mk.injEq] at hv
    obtain ⟨⟨rfl, -, -⟩, -, -⟩ := hv
    exact ⟨cur, _, hh⟩
theorem World.ownsRow.own {a : Option Addr} {m cap : Nat} (h : w.ownsRow lo e sz (.slice a m cap) n xs) {i : Nat} (hi : i < n * sz) : ∃ b o, a = some ⟨b, o, none⟩ ∧ lo ≤ b ∧ b < w.heap.size ∧ w.cell? ⟨b, o + i, none⟩ = xs[i]? ∧ w.frozen? ⟨b, o + i, none⟩ = false := by
  obtain ⟨h1, h2⟩ := h
  rcases h2 with ⟨h0, hn⟩ | ⟨g, cap', cur, hv, hg, hh, hn, hcap, hs, ht⟩
  · subst hn; simp at hi
  · simp only [Value.slice.injEq] at hv
    obtain ⟨rfl, rfl, rfl⟩ := hv
    refine ⟨g, 0, rfl, hg, (Array.getElem?_eq_some_iff.1 hh).1, ?_, by simp [World.frozen?, hh]⟩
    rw [Nat.zero_add, ← ht, List.getElem?_take_of_lt hi]
    simp [World.cell?, hh]
end
end Go
namespace Go.Proofs.Ytelaoimcaidoiaa
open Go.RowKit
/-- A slice value owns these pairs. -/
def GrowP (lo : Nat) (e : TypeId) (w : World) (v : Value) (ps : List (Int × Int)) : Prop := w.ownsRow lo e 2 v ps.length ((flatP ps).map (Value.int .i64))
theorem flatP_append : ∀ (a b : List (Int × Int)), flatP (a ++ b) = flatP a ++ flatP b
  | [], b => rfl
  | p :: a, b => by simp [flatP, flatP_append a b]
section
variable {lo : Nat} {e : TypeId} {w w' : World} {v : Value} {ps : List (Int × Int)}
theorem GrowP.empty (w : World) (h : lo ≤ w.heap.size) : GrowP lo e (w.alloc (.cells #[] e)) (.slice (some ⟨w.heap.size, 0, none⟩) 0 0) [] := World.ownsRow_made w #[] 0 h (Nat.zero_le _) rfl
theorem GrowP.ext (h : GrowP lo e w v ps) (hx : w.Ext w') : GrowP lo e w' v ps := World.ownsRow.ext h hx
theorem GrowP.setCell (h : GrowP lo e w v ps) {a : Addr} (ha : some a.block ≠ v.ownBlock) (u : Value) : GrowP lo e (w.setCell a u) v ps := World.ownsRow.setCell h ha u
theorem GrowP.form (h : GrowP lo e w v ps) : ∃ a cap, v = .slice a ps.length cap ∧ ps.length ≤ cap := World.ownsRow.form h
theorem GrowP.push {p : Int × Int} {v' : Value} (h : w.ownsRow lo e 2 v' (ps.length + 1) ((flatP ps).map (Value.int .i64) ++ [.int .i64 p.1, .int .i64 p.2])) : GrowP lo e w v' (ps ++ [p]) := by
  unfold GrowP
  rw [flatP_append, List.map_append, List.length_append]
  exact h
theorem GrowP.own {a : Option Addr} {m cap : Nat} (h : GrowP lo e w (.slice a m cap) ps) : OwnP lo w.heap.size w a ps := by
  intro i hi
  obtain ⟨b, o, h1, h2, h3, h4, h5⟩ := World.ownsRow.own h (i := i) (by rw [flatP_len] at hi; omega)
  refine ⟨b, o, h1, h2, h3, ?_, h5⟩
  rw [h4, List.getElem?_map, List.getElem?_eq_getElem hi, List.getD_eq_getElem?_getD, List.getElem?_eq_getElem hi]
  rfl
end
end Go.Proofs.Ytelaoimcaidoiaa
namespace Go
open Go.RowKit
theorem GrowOf.blockTag {α : Type} {f : α → Value} {lo : Nat} {e : TypeId} {w : World} {v : Value} {xs : List α} (h : GrowOf f lo e w v xs) {k : Nat} (hk : v.ownBlock = Option.some k) : ∃ cs fr, w.heap[k]? = Option.some (.cells cs e fr) := by
  rcases h.2 with ⟨h0, _⟩ | ⟨g, cap, cur, h0, _, hh, _⟩
  · rw [h0] at hk; cases hk
  · rw [h0] at hk
    simp only [Value.ownBlock, Option.some.injEq] at hk
    subst hk
    exact ⟨_, _, hh⟩
structure GrowM (lo : Nat) (TO TI : TypeId) (w : World) (v : Value) (A : Nat → Option Addr) (C : Nat → Nat) (m : List (List Int)) : Prop where
  outer : w.ownsRow lo TO 1 v m.length ((List.range m.length).map fun r => Value.slice (A r) (m.getD r []).length (C r))
  rows : ∀ r, r < m.length → GrowOf (Value.int .i64) lo TI w (.slice (A r) (m.getD r []).length (C r)) (m.getD r [])
  apart : ∀ r s b o b' o', r < m.length → s < m.length → r ≠ s → A r = some ⟨b, o, none⟩ → A s = some ⟨b', o', none⟩ → b ≠ b'
section
variable {lo : Nat} {TO TI : TypeId} {w w1 w3 w4 : World} {v v' : Value} {A : Nat → Option Addr} {C : Nat → Nat} {m : List (List Int)}
theorem GrowM.empty (w : World) (h : lo ≤ w.heap.size) : GrowM lo TO TI (w.alloc (.cells #[] TO)) (.slice (some ⟨w.heap.size, 0, none⟩) 0 0) (fun _ => none) (fun _ => 0) [] :=
  ⟨World.ownsRow_made w #[] 0 h (Nat.zero_le _) rfl, (fun r hr => by cases hr), (fun r s b o b' o' hr => by cases hr)⟩
theorem GrowM.ext (h : GrowM lo TO TI w v A C m) (hx : w.Ext w3) : GrowM lo TO TI w3 v A C m := ⟨World.ownsRow.ext h.outer hx, fun r hr => (h.rows r hr).ext hx, h.apart⟩
theorem GrowM.push {a : Option Addr} {c : Nat} {row : List Int} {o : Obj} (hne : TO ≠ TI) (h : GrowM lo TO TI w1 v A C m) (hx : w1.Ext w3) (hg : GrowOf (Value.int .i64) w1.heap.size TI w3 (.slice a row.length c) row) (hlo : lo ≤ w1.heap.size)
    (hgrow : (w3.alloc o).grownBy w4 v.ownBlock) (hown : w4.ownsRow lo TO 1 v' (m.length + 1) ((List.range m.length).map (fun r => Value.slice (A r) (m.getD r []).length (C r)) ++ [.slice a row.length c])) :
    GrowM lo TO TI w4 v' (fun r => if r = m.length then a else A r) (fun r => if r = m.length then c else C r) (m ++ [row]) := by
  have h3 := h.ext hx
  have getl : ∀ r, r < m.length → (m ++ [row]).getD r [] = m.getD r [] := fun r hr => by
    rw [List.getD_eq_getElem?_getD, List.getElem?_append_left hr, ← List.getD_eq_getElem?_getD]
  have getr : (m ++ [row]).getD m.length [] = row := by
    rw [List.getD_eq_getElem?_getD, List.getElem?_append_right (Nat.le_refl _), Nat.sub_self]
    rfl
  have keep : ∀ {lo' : Nat} {u : Value} {xs : List Int}, GrowOf (Value.int .i64) lo' TI w3 u xs → GrowOf (Value.int .i64) lo' TI w4 u xs := fun hu =>
    hu.keep fun k hk => by
      obtain ⟨cs, fr, hh⟩ := hu.blockTag hk
      have hlt : k < w3.heap.size := (Array.getElem?_eq_some_iff.1 hh).1
      have e1 := hgrow.block k (by simp; omega) (World.ownsRow.ne h3.outer hh hne)
      rw [e1]; exact heap_alloc_old w3 o hlt
  refine ⟨?_, fun r hr => ?_, fun r s b o' b' o'' hr hs hrs hA hB => ?_⟩
  · rw [List.length_append, List.length_singleton, List.range_succ, List.map_append]
    have e1 : ((List.range m.length).map fun r => Value.slice (if r = m.length then a else A r) ((m ++ [row]).getD r []).length (if r = m.length then c else C r)) = (List.range m.length).map fun r => Value.slice (A r) (m.getD r []).length (C r) :=
      List.map_congr_left fun r hr => by
        have hr' : r < m.length := by simpa using hr
        rw [if_neg (by omega), if_neg (by omega), getl r hr']
    rw [e1, List.map_cons, List.map_nil, if_pos rfl, if_pos rfl, getr]
    exact hown
  · rw [List.length_append, List.length_singleton] at hr
    by_cases e : r = m.length
    · subst e
      rw [if_pos rfl, if_pos rfl, getr]
      have hk := keep hg
      refine ⟨hk.1, ?_⟩
      rcases hk.2 with h0 | ⟨g, cap, cur, h0, hb, r⟩
      · exact .inl h0
      · exact .inr ⟨g, cap, cur, h0, Nat.le_trans hlo hb, r⟩
    · have hr' : r < m.length := by omega
      rw [if_neg e, if_neg e, getl r hr']
      exact keep (h3.rows r hr')
  · rw [List.length_append, List.length_singleton] at hr hs
    by_cases er : r = m.length
    · have es : s ≠ m.length := by omega
      rw [if_pos er] at hA
      rw [if_neg es] at hB
      have h1 := (hg.block (k := b) (by rw [hA]; rfl)).1
      have h2 := ((h.rows s (by omega)).block (k := b') (by rw [hB]; rfl)).2
      omega
    · rw [if_neg er] at hA
      by_cases es : s = m.length
      · rw [if_pos es] at hB
        have h1 := (hg.block (k := b') (by rw [hB]; rfl)).1
        have h2 := ((h.rows r (by omega)).block (k := b) (by rw [hA]; rfl)).2
        omega
      · rw [if_neg es] at hB
        exact h.apart r s b o' b' o'' (by omega) (by omega) hrs hA hB
theorem GrowM.grown {lo' : Nat} {E : TypeId} {sz n : Nat} {u : Value} {xs : List Value} (h : GrowM lo TO TI w v A C m) (hu : w.ownsRow lo' E sz u n xs) (h1 : E ≠ TO) (h2 : E ≠ TI) (hg : w.grownBy w3 u.ownBlock) : GrowM lo TO TI w3 v A C m := by
  refine ⟨?_, fun r hr => ?_, h.apart⟩
  · refine World.ownsRow.keep h.outer fun k hk => ?_
    rcases h.outer.2 with ⟨h0, _⟩ | ⟨g, cap, cur, h0, _, hh, _⟩
    · rw [h0] at hk; cases hk
    · rw [h0] at hk
      simp only [Value.ownBlock, Option.some.injEq] at hk
      subst hk
      exact hg.block _ (Array.getElem?_eq_some_iff.1 hh).1 (World.ownsRow.ne hu hh h1)
  · refine (h.rows r hr).keep fun k hk => ?_
    obtain ⟨cs, fr, hh⟩ := (h.rows r hr).blockTag hk
    exact hg.block _ (Array.getElem?_eq_some_iff.1 hh).1 (World.ownsRow.ne hu hh h2)
theorem GrowM.lower (h : GrowM lo TO TI w v A C m) {lo' : Nat} (hl : lo' ≤ lo) : GrowM lo' TO TI w v A C m := by
  refine ⟨⟨h.outer.1, ?_⟩, fun r hr => ⟨(h.rows r hr).1, ?_⟩, h.apart⟩
  · rcases h.outer.2 with h0 | ⟨g, cap, cur, h0, hb, r⟩
    · exact .inl h0
    · exact .inr ⟨g, cap, cur, h0, Nat.le_trans hl hb, r⟩
  · rcases (h.rows r hr).2 with h0 | ⟨g, cap, cur, h0, hb, r⟩
    · exact .inl h0
    · exact .inr ⟨g, cap, cur, h0, Nat.le_trans hl hb, r⟩
theorem GrowM.at {a : Option Addr} {n c : Nat} (h : GrowM lo TO TI w (.slice a n c) A C m) {y : Nat} (hy : y < m.length) : (∃ b o, a = some ⟨b, o, none⟩ ∧ w.cell? ⟨b, o + y, none⟩ = some (.slice (A y) (m.getD y []).length (C y))) ∧ ∀ x, x < (m.getD y []).length → ∃ b o, A y = some ⟨b, o, none⟩ ∧ w.cell? ⟨b, o + x, none⟩ = some (.int .i64 ((m.getD y []).getD x 0)) := by
  obtain ⟨b, o, h1, h2, h3, h4, _⟩ := World.ownsRow.own h.outer (i := y) (by omega)
  refine ⟨⟨b, o, h1, by rw [h4]; simp [hy]⟩, fun x hx => ?_⟩
  obtain ⟨b', o', h5, _, _, h6, _⟩ := GrowOf.own 0 (h.rows y hy) x hx
  exact ⟨b', o', h5, h6⟩
theorem GrowM.pushExt {w0 : World} {o : Obj} (h : GrowM w0.heap.size TO TI w1 v A C m) (hx0 : w0.Ext w1) (hx : w1.Ext w3) (hgrow : (w3.alloc o).grownBy w4 v.ownBlock) : w0.Ext w4 :=
  World.ownsRow.pushExt (World.ownsRow.ext h.outer hx) (hx0.trans hx) hgrow
theorem GrowM.mat {a : Option Addr} {n c : Nat} (hne : TO ≠ TI) (h : GrowM lo TO TI w (.slice a n c) A C m) : OwnMat lo w.heap.size w a A C m := by
  refine ⟨fun r hr => ?_, fun r hr => GrowOf.own 0 (h.rows r hr), h.apart⟩
  obtain ⟨b, o, h1, h2, h3, h4, _⟩ := World.ownsRow.own h.outer (i := r) (by omega)
  refine ⟨b, o, h1, h2, h3, by rw [h4]; simp [hr], fun s b' o' hs hA e => ?_⟩
  subst e
  obtain ⟨cs, fr, hh⟩ := (h.rows s hs).blockTag (k := b') (by rw [hA]; rfl)
  have := World.ownsRow.ne h.outer hh hne
  rw [h1] at this
  exact this rfl
end
/-- A table of numbers. -/
def grd (W H : Nat) (g : Nat → Nat → Int) : List (List Int) := (List.range H).map fun y => (List.range W).map fun x => g x y
def grdRow (g : Nat → Nat → Int) (y x : Nat) : List Int := (List.range x).map fun x => g x y
theorem grdRow_succ (g : Nat → Nat → Int) (y x : Nat) : grdRow g y (x + 1) = grdRow g y x ++ [g x y] := by simp [grdRow, List.range_succ]
theorem grdRow_len (g : Nat → Nat → Int) (y x : Nat) : (grdRow g y x).length = x := by simp [grdRow]
theorem grd_succ (W y : Nat) (g : Nat → Nat → Int) : grd W (y + 1) g = grd W y g ++ [grdRow g y W] := by simp [grd, grdRow, List.range_succ]
theorem grd_len (W H : Nat) (g : Nat → Nat → Int) : (grd W H g).length = H := by simp [grd]
theorem grd_row {W H : Nat} {g : Nat → Nat → Int} {y : Nat} (h : y < H) : (grd W H g).getD y [] = grdRow g y W := by
  unfold grd grdRow
  rw [List.getD_eq_getElem?_getD, List.getElem?_map, List.getElem?_eq_getElem (by simpa using h)]
  simp
theorem grdRow_at {g : Nat → Nat → Int} {y x W : Nat} (h : x < W) : (grdRow g y W).getD x 0 = g x y := by
  unfold grdRow
  rw [List.getD_eq_getElem?_getD, List.getElem?_map, List.getElem?_eq_getElem (by simpa using h)]
  simp
end Go
