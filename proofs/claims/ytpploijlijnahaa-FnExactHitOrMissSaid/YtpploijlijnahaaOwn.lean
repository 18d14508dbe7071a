/- Blocks of the call's own: known whole; stores into them; make. -/
import Derived.Test.YtpploijlijnahaaRep
namespace Go
open Go.RowKit
/-- Block 'g' holds just these elements, and may be written. -/
def BlkOf {α : Type} (f : α → Value) (w : World) (g : Nat) (e : TypeId) (xs : List α) : Prop :=
  w.heap[g]? = some (.cells (xs.map f).toArray e (0, 0))
theorem BlkOf.cell {α : Type} {f : α → Value} {w : World} {g : Nat} {e : TypeId} {xs : List α} (h : BlkOf f w g e xs) (d : α) {i : Nat} (hi : i < xs.length) : w.cell? ⟨g, i, none⟩ = some (f (xs.getD i d)) := by
  unfold BlkOf at h
  simp [World.cell?, h, hi, List.getD_eq_getElem?_getD]
theorem BlkOf.free {α : Type} {f : α → Value} {w : World} {g : Nat} {e : TypeId} {xs : List α} (h : BlkOf f w g e xs) (i : Nat) : w.frozen? ⟨g, i, none⟩ = false := by
  unfold BlkOf at h
  simp [World.frozen?, h]
theorem BlkOf.lt {α : Type} {f : α → Value} {w : World} {g : Nat} {e : TypeId} {xs : List α} (h : BlkOf f w g e xs) : g < w.heap.size := by
  unfold BlkOf at h
  exact (Array.getElem?_eq_some_iff.1 h).1
theorem BlkOf.set {α : Type} {f : α → Value} {w : World} {g : Nat} {e : TypeId} {xs : List α} (h : BlkOf f w g e xs) (i : Nat) (v : α) : BlkOf f (w.setCell ⟨g, i, none⟩ (f v)) g e (xs.set i v) := by
  unfold BlkOf at *
  simp [World.setCell, Array.getElem?_modify, h, List.map_set]
theorem BlkOf.keep {α : Type} {f : α → Value} {w w' : World} {g : Nat} {e : TypeId} {xs : List α} (h : BlkOf f w g e xs) (hk : w'.heap[g]? = w.heap[g]?) : BlkOf f w' g e xs := by
  unfold BlkOf at *
  rw [hk, h]
theorem World.Ext.block {w w' : World} (h : w.Ext w') {k : Nat} (hk : k < w.heap.size) : w'.heap[k]? = w.heap[k]? := h.below.block k hk
theorem BlkOf.ext {α : Type} {f : α → Value} {w w' : World} {g : Nat} {e : TypeId} {xs : List α} (h : BlkOf f w g e xs) (hx : w.Ext w') : BlkOf f w' g e xs :=
  h.keep (hx.block h.lt)
theorem BlkOf.own {α : Type} {f : α → Value} {w : World} {g : Nat} {e : TypeId} {xs : List α} (h : BlkOf f w g e xs) (d : α) {lo hi : Nat} (hl : lo ≤ g) (hh : w.heap.size ≤ hi) : OwnOf f d lo hi w (some ⟨g, 0, none⟩) xs :=
  fun i hi' => ⟨g, 0, rfl, hl, Nat.lt_of_lt_of_le h.lt hh, by rw [Nat.zero_add]; exact h.cell d hi', h.free _⟩
theorem BlkOf.setCell_other {α : Type} {f : α → Value} {w : World} {g : Nat} {e : TypeId} {xs : List α} (h : BlkOf f w g e xs) {a : Addr} (ha : a.block ≠ g) (v : Value) : BlkOf f (w.setCell a v) g e xs :=
  h.keep (Below.heap_setCell _ _ _ _ (Ne.symm ha))
theorem World.Ext.grown {w w1 w2 : World} {row : Option Nat} (h : w.Ext w1) (hg : w1.grownBy w2 row) (hr : ∀ k, row = some k → w.heap.size ≤ k) : w.Ext w2 :=
  .of_below (h.below.grown hg h.size hr)
theorem World.Ext.made {w w1 : World} (hg : w.grownBy w1 none) : w.Ext w1 := (World.Ext.refl w).grown hg (fun _ h => by cases h)
/-- What has been copied after k rounds. -/
def copied {α : Type} (d : α) (zs : List α) (k : Nat) : List α := zs.take k ++ List.replicate (zs.length - k) d
theorem copied_zero {α : Type} (d : α) (zs : List α) : copied d zs 0 = List.replicate zs.length d := by simp [copied]
theorem copied_len {α : Type} (d : α) (zs : List α) (k : Nat) (h : k ≤ zs.length) : (copied d zs k).length = zs.length := by simp [copied]; omega
theorem copied_all {α : Type} (d : α) (zs : List α) : copied d zs zs.length = zs := by simp [copied]
theorem copied_set {α : Type} (d : α) (zs : List α) (k : Nat) (h : k < zs.length) : (copied d zs k).set k (zs.getD k d) = copied d zs (k + 1) := by
  unfold copied
  rw [List.set_append_right _ _ (by simp; omega)]
  obtain ⟨n, hn⟩ : ∃ n, zs.length - k = n + 1 := ⟨zs.length - k - 1, by omega⟩
  rw [show zs.length - (k + 1) = n by omega, hn, List.replicate_succ]
  rw [show k - (List.take k zs).length = 0 by simp; omega, List.set_cons_zero]
  rw [List.take_succ_eq_append_getElem h, List.append_assoc]
  simp [List.getD_eq_getElem?_getD, h]
/-- Behind make of a row: the block is known whole. -/
theorem blk_of_made {α : Type} {f : α → Value} {w : World} {base g n : Nat} {e : TypeId} {z : Value} (d : α) (hz : z.cells = #[f d])
    (h : w.ownsRow base e 1 (.slice (some ⟨g, 0, none⟩) n n) n (madeCells z.cells (n * 1)).toList) : BlkOf f w g e (List.replicate n d) := by
  obtain ⟨h1, h2⟩ := h
  rcases h2 with ⟨h2, _⟩ | ⟨g', cap, cur, hv, _, hh, _, _, hs, ht⟩
  · cases h2
  · simp only [Value.slice.injEq, Option.some.injEq, Addr.mk.injEq, and_true] at hv
    obtain ⟨rfl, -, rfl⟩ := hv
    unfold BlkOf
    rw [hh]
    have e1 : cur.toList.take (n * 1) = cur.toList := List.take_of_length_le (by simp [hs])
    rw [e1] at ht
    have e2 : cur = (cur.toList).toArray := by simp
    rw [e2, ht, hz]
    congr 2
    apply Array.ext
    · simp [size_madeCells]
    · intro i h1 h2
      simp [madeCells, Nat.mod_one]
/-- A row of which the first k cells have been set. -/
def HalfOf {α : Type} (f : α → Value) (mk : Nat → α) (lo hi : Nat) (w : World) (a : Option Addr) (n k : Nat) : Prop :=
  ∀ i, i < n → ∃ b o v, a = some ⟨b, o, none⟩ ∧ lo ≤ b ∧ b < hi ∧ w.cell? ⟨b, o + i, none⟩ = some (f v) ∧ (i < k → v = mk i) ∧ w.frozen? ⟨b, o + i, none⟩ = false
theorem HalfOf.start {α : Type} {f : α → Value} {mk : Nat → α} {d : α} {lo hi : Nat} {w : World} {a : Option Addr} {zs : List α} (h : OwnOf f d lo hi w a zs) : HalfOf f mk lo hi w a zs.length 0 :=
  fun i hi => let ⟨b, o, h1, h2, h3, h4, h5⟩ := h i hi; ⟨b, o, _, h1, h2, h3, h4, fun h => by omega, h5⟩
theorem HalfOf.done {α : Type} {f : α → Value} {mk : Nat → α} {lo hi : Nat} {w : World} {a : Option Addr} {n : Nat} (h : HalfOf f mk lo hi w a n n) (d : α) : OwnOf f d lo hi w a ((List.range n).map mk) :=
  fun i hi => by
    rw [List.length_map, List.length_range] at hi
    obtain ⟨b, o, v, h1, h2, h3, h4, h5, h6⟩ := h i hi
    exact ⟨b, o, h1, h2, h3, by rw [h4, h5 hi]; simp [List.getD_eq_getElem?_getD, hi], h6⟩
theorem cell_set_same {w : World} {b o : Nat} {v u : Value} (h : w.cell? ⟨b, o, none⟩ = some v) : (w.setCell ⟨b, o, none⟩ u).cell? ⟨b, o, none⟩ = some u := by
  unfold World.cell? World.setCell at *
  simp only [Array.getElem?_modify, if_true] at *
  cases hh : w.heap[b]? with
  | none => rw [hh] at h; cases h
  | some o' =>
    rw [hh] at h
    cases o' with
    | cells c e fr =>
      simp at h
      have hlt : o < c.size := (Array.getElem?_eq_some_iff.1 h).1
      simp [hlt]
    | _ => cases h
theorem cell_set_other {w : World} {b o i : Nat} {u : Value} (h : i ≠ o) : (w.setCell ⟨b, o, none⟩ u).cell? ⟨b, i, none⟩ = w.cell? ⟨b, i, none⟩ := by
  unfold World.cell? World.setCell
  simp only [Array.getElem?_modify]
  simp only [if_true]
  cases hh : w.heap[b]? with
  | none => simp
  | some o' =>
    cases o' <;> simp
    rw [Array.getElem?_setIfInBounds_ne (by omega)]
theorem frozen_set {w : World} {a p : Addr} {u : Value} : (w.setCell a u).frozen? p = w.frozen? p := by
  unfold World.frozen? World.setCell
  simp only [Array.getElem?_modify]
  by_cases e : a.block = p.block
  · rw [if_pos e]
    cases hh : w.heap[p.block]? with
    | none => simp
    | some o' => cases o' <;> simp
  · rw [if_neg e]
theorem HalfOf.next {α : Type} {f : α → Value} {mk : Nat → α} {lo hi : Nat} {w : World} {b o n k : Nat} (h : HalfOf f mk lo hi w (some ⟨b, o, none⟩) n k) (hk : k < n) : HalfOf f mk lo hi (w.setCell ⟨b, o + k, none⟩ (f (mk k))) (some ⟨b, o, none⟩) n (k + 1) := by
  intro i hi'
  obtain ⟨b', o', v, h1, h2, h3, h4, h5, h6⟩ := h i hi'
  simp only [Option.some.injEq, Addr.mk.injEq, and_true] at h1
  obtain ⟨rfl, rfl⟩ := h1
  by_cases e : i = k
  · subst e
    exact ⟨b, o, _, rfl, h2, h3, cell_set_same h4, fun _ => rfl, by rw [frozen_set]; exact h6⟩
  · exact ⟨b, o, v, rfl, h2, h3, by rw [cell_set_other (by omega)]; exact h4, fun hk' => h5 (by omega), by rw [frozen_set]; exact h6⟩
/-- A block of one cell. -/
def One (w : World) (p : Nat) (e : TypeId) (v : Value) : Prop := w.heap[p]? = some (.cells #[v] e (0, 0))
theorem One.cell {w : World} {p : Nat} {e : TypeId} {v : Value} (h : One w p e v) : w.cell? ⟨p, 0, none⟩ = some v := by unfold One at h; simp [World.cell?, h]
theorem One.free {w : World} {p : Nat} {e : TypeId} {v : Value} (h : One w p e v) : w.frozen? ⟨p, 0, none⟩ = false := by unfold One at h; simp [World.frozen?, h]
theorem One.lt {w : World} {p : Nat} {e : TypeId} {v : Value} (h : One w p e v) : p < w.heap.size := (Array.getElem?_eq_some_iff.1 h).1
theorem One.keep {w w' : World} {p : Nat} {e : TypeId} {v : Value} (h : One w p e v) (hk : w'.heap[p]? = w.heap[p]?) : One w' p e v := by unfold One at *; rw [hk, h]
theorem One.ext {w w' : World} {p : Nat} {e : TypeId} {v : Value} (h : One w p e v) (hx : w.Ext w') : One w' p e v := h.keep (hx.block h.lt)
theorem One.set {w : World} {p : Nat} {e : TypeId} {v : Value} (h : One w p e v) (u : Value) : One (w.setCell ⟨p, 0, none⟩ u) p e u := by
  unfold One at *
  simp [World.setCell, Array.getElem?_modify, h]
theorem One.other {w : World} {p : Nat} {e : TypeId} {v : Value} (h : One w p e v) {a : Addr} (ha : a.block ≠ p) (u : Value) : One (w.setCell a u) p e v := h.keep (Below.heap_setCell _ _ _ _ (Ne.symm ha))
theorem One.new (w : World) (v : Value) (e : TypeId) (p : Nat) (hp : p = w.heap.size) : One (w.alloc (.cells #[v] e)) p e v := by
  subst hp
  show (w.heap.push _)[w.heap.size]? = _
  simp
theorem One.grown {w w' : World} {p : Nat} {e : TypeId} {v : Value} (h : One w p e v) {row : Option Nat} (hg : w.grownBy w' row) (hne : some p ≠ row) : One w' p e v := h.keep (hg.block p h.lt hne)
/-- A slice of the call's own that is being filled: it holds 'xs'. -/
def GrowOf {α : Type} (f : α → Value) (lo : Nat) (e : TypeId) (w : World) (v : Value) (xs : List α) : Prop := w.ownsRow lo e 1 v xs.length (xs.map f)
section
variable {α : Type} {f : α → Value} {lo : Nat} {e : TypeId} {w w' : World} {v : Value} {xs : List α}
theorem GrowOf.empty (w : World) (h : lo ≤ w.heap.size) : GrowOf f lo e (w.alloc (.cells #[] e)) (.slice (some ⟨w.heap.size, 0, none⟩) 0 0) ([] : List α) :=
  ⟨rfl, .inr ⟨w.heap.size, 0, #[], rfl, h, by show (w.heap.push _)[w.heap.size]? = _; simp, Nat.le_refl _, Nat.zero_le _, rfl, rfl⟩⟩
theorem GrowOf.block (h : GrowOf f lo e w v xs) {k : Nat} (hk : v.ownBlock = some k) : lo ≤ k ∧ k < w.heap.size := by
  rcases h.2 with ⟨h0, _⟩ | ⟨g, cap, cur, h0, hg, hh, _⟩
  · rw [h0] at hk; cases hk
  · rw [h0] at hk
    simp only [Value.ownBlock, Option.some.injEq] at hk
    subst hk
    exact ⟨hg, (Array.getElem?_eq_some_iff.1 hh).1⟩
theorem GrowOf.keep (h : GrowOf f lo e w v xs) (hk : ∀ k, v.ownBlock = some k → w'.heap[k]? = w.heap[k]?) : GrowOf f lo e w' v xs := by
  refine ⟨h.1, ?_⟩
  rcases h.2 with h0 | ⟨g, cap, cur, h0, hg, hh, r⟩
  · exact .inl h0
  · exact .inr ⟨g, cap, cur, h0, hg, by rw [hk g (by rw [h0]; rfl)]; exact hh, r⟩
theorem GrowOf.ext (h : GrowOf f lo e w v xs) (hx : w.Ext w') : GrowOf f lo e w' v xs :=
  h.keep fun _ hk => hx.block (h.block hk).2
theorem GrowOf.ne {p : Nat} {e' : TypeId} {u : Value} (h : GrowOf f lo e w v xs) (ho : One w p e' u) (he : e ≠ e') : some p ≠ v.ownBlock := by
  intro hp
  rcases h.2 with ⟨h0, _⟩ | ⟨g, cap, cur, h0, hg, hh, _⟩
  · rw [h0] at hp; cases hp
  · rw [h0] at hp
    simp only [Value.ownBlock, Option.some.injEq] at hp
    subst hp
    unfold One at ho
    rw [hh] at ho
    simp only [Option.some.injEq, Obj.cells.injEq] at ho
    exact he ho.2.1
theorem GrowOf.setCell (h : GrowOf f lo e w v xs) {a : Addr} (ha : some a.block ≠ v.ownBlock) (u : Value) : GrowOf f lo e (w.setCell a u) v xs :=
  h.keep fun k hk => Below.heap_setCell _ _ _ _ fun e => ha (by rw [hk, e])
theorem GrowOf.form (h : GrowOf f lo e w v xs) : ∃ a cap, v = .slice a xs.length cap ∧ xs.length ≤ cap := by
  rcases h.2 with ⟨h0, hn⟩ | ⟨g, cap, cur, h0, _, _, hc, _⟩
  · exact ⟨none, 0, by rw [h0, hn], by omega⟩
  · exact ⟨_, cap, h0, hc⟩
theorem GrowOf.own (d : α) {a : Option Addr} {n cap : Nat} (h : GrowOf f lo e w (.slice a n cap) xs) : OwnOf f d lo w.heap.size w a xs := by
  intro i hi
  obtain ⟨h1, h2⟩ := h
  rcases h2 with ⟨_, h0⟩ | ⟨g, cap', cur, hv, hg, hh, hn, hcap, hs, ht⟩
  · omega
  · simp only [Value.slice.injEq] at hv
    obtain ⟨rfl, rfl, rfl⟩ := hv
    refine ⟨g, 0, rfl, hg, (Array.getElem?_eq_some_iff.1 hh).1, ?_, by simp [World.frozen?, hh]⟩
    rw [Nat.zero_add]
    have e1 : cur[i]? = some (f (xs.getD i d)) := by
      have : (cur.toList.take (xs.length * 1))[i]? = (xs.map f)[i]? := by rw [ht]
      rw [List.getElem?_take_of_lt (by omega)] at this
      simpa [List.getD_eq_getElem?_getD, hi] using this
    simp [World.cell?, hh, e1]
theorem GrowOf.some (h : GrowOf f lo e w v xs) (hp : 0 < xs.length) : ∃ g cap, v = .slice (some ⟨g, 0, none⟩) xs.length cap ∧ lo ≤ g ∧ g < w.heap.size ∧ ∀ (d : α) i, i < xs.length → w.cell? ⟨g, i, none⟩ = Option.some (f (xs.getD i d)) := by
  obtain ⟨a, cap, hv, _⟩ := h.form
  subst hv
  have ho := fun d => GrowOf.own d h
  rcases h.2 with ⟨_, h0⟩ | ⟨g, cap', cur, hv, hg, hh, _⟩
  · omega
  · simp only [Value.slice.injEq] at hv
    obtain ⟨rfl, -, rfl⟩ := hv
    refine ⟨g, cap, rfl, hg, (Array.getElem?_eq_some_iff.1 hh).1, fun d i hi => ?_⟩
    obtain ⟨b, o, h1, _, _, h4, _⟩ := ho d i hi
    simp only [Option.some.injEq, Addr.mk.injEq, and_true] at h1
    obtain ⟨rfl, rfl⟩ := h1
    rwa [Nat.zero_add] at h4
/-- The block of a slice has elements of a type. -/
def Tag (w : World) (a : Option Addr) (e : TypeId) : Prop := ∀ b o s, a = Option.some ⟨b, o, s⟩ → ∃ cs fr, w.heap[b]? = Option.some (.cells cs e fr)
theorem GrowOf.tag {a : Option Addr} {n cap : Nat} (h : GrowOf f lo e w (.slice a n cap) xs) : Tag w a e := by
  intro b o s ha
  subst ha
  rcases h.2 with ⟨h0, _⟩ | ⟨g, cap', cur, hv, _, hh, _⟩
  · cases h0
  · simp only [Value.slice.injEq, Option.some.injEq, Addr.mk.injEq] at hv
    obtain ⟨⟨rfl, -, -⟩, -, -⟩ := hv
    exact ⟨cur, _, hh⟩
theorem BlkOf.tag {g : Nat} (h : BlkOf f w g e xs) : Tag w (Option.some ⟨g, 0, none⟩) e := by
  intro b o s ha
  simp only [Option.some.injEq, Addr.mk.injEq] at ha
  obtain ⟨rfl, -, -⟩ := ha
  exact ⟨_, _, h⟩
theorem Tag.keep {a : Option Addr} {e : TypeId} (h : Tag w a e) (hk : ∀ b o s, a = Option.some ⟨b, o, s⟩ → w'.heap[b]? = w.heap[b]?) : Tag w' a e :=
  fun b o s ha => let ⟨cs, fr, hh⟩ := h b o s ha; ⟨cs, fr, by rw [hk b o s ha, hh]⟩
theorem Tag.lt {a : Option Addr} {e : TypeId} (h : Tag w a e) {b o : Nat} {s : Option Nat} (ha : a = Option.some ⟨b, o, s⟩) : b < w.heap.size :=
  let ⟨_, _, hh⟩ := h b o s ha; (Array.getElem?_eq_some_iff.1 hh).1
theorem Tag.ext {a : Option Addr} {e : TypeId} (h : Tag w a e) (hx : w.Ext w') : Tag w' a e :=
  h.keep fun _ _ _ ha => hx.block (h.lt ha)
theorem Tag.ne {a : Option Addr} {e' : TypeId} (h : Tag w a e') (hg : GrowOf f lo e w v xs) (he : e ≠ e') {b o : Nat} {s : Option Nat} (ha : a = Option.some ⟨b, o, s⟩) : Option.some b ≠ v.ownBlock := by
  intro hp
  obtain ⟨cs, fr, hb⟩ := h b o s ha
  rcases hg.2 with ⟨h0, _⟩ | ⟨g, cap, cur, h0, _, hh, _⟩
  · rw [h0] at hp; cases hp
  · rw [h0] at hp
    simp only [Value.ownBlock, Option.some.injEq] at hp
    subst hp
    rw [hh] at hb
    simp only [Option.some.injEq, Obj.cells.injEq] at hb
    exact he hb.2.1
/-- A row that is read while another one, of another type, grows. -/
theorem RowOf.grown {β : Type} {fb : β → Value} {d : β} {a : Option Addr} {ys : List β} {row : Option Nat} (h : RowOf fb d w a ys) (hg : w.grownBy w' row) (hne : ∀ b o, a = Option.some ⟨b, o, none⟩ → Option.some b ≠ row) : RowOf fb d w' a ys :=
  fun i hi => let ⟨b, o, h1, h2⟩ := h i hi; ⟨b, o, h1, hg.cell h2 (hne b o h1)⟩
theorem Tag.grown {a : Option Addr} {e : TypeId} {row : Option Nat} (h : Tag w a e) (hg : w.grownBy w' row) (hne : ∀ b o s, a = Option.some ⟨b, o, s⟩ → Option.some b ≠ row) : Tag w' a e :=
  h.keep fun b o s ha => hg.block b (h.lt ha) (hne b o s ha)
/-- Behind an append of several. -/
theorem GrowOf.pushes {w1 : World} {v' : Value} {ys : List α} (ho : w1.ownsRow lo e 1 v' (xs.length + ys.length) (xs.map f ++ ys.map f)) : GrowOf f lo e w1 v' (xs ++ ys) := by
  unfold GrowOf
  simpa using ho
theorem GrowOf.pushesExt {w0 : World} {w1 : World} (h : GrowOf f w0.heap.size e w v xs) (hx : w0.Ext w) (hg : w.grownBy w1 v.ownBlock) : w0.Ext w1 :=
  hx.grown hg fun _ hk => (h.block hk).1
/-- Behind an append of one element. -/
theorem GrowOf.push {w1 : World} {v' : Value} {x : α} (ho : w1.ownsRow lo e 1 v' (xs.length + 1) (xs.map f ++ [f x])) : GrowOf f lo e w1 v' (xs ++ [x]) := by
  unfold GrowOf
  simpa using ho
theorem GrowOf.pushExt {w0 : World} {o : Obj} {w1 : World} (h : GrowOf f w0.heap.size e w v xs) (hx : w0.Ext w) (hg : (w.alloc o).grownBy w1 v.ownBlock) : w0.Ext w1 :=
  (hx.alloc o).grown hg fun _ hk => (h.block hk).1
end
theorem Addr.add_mk (b o j : Nat) : (⟨b, o, none⟩ : Addr).add j = ⟨b, o + j, none⟩ := by unfold Addr.add; split <;> simp_all
/-- What an append of a row asks of its cells. -/
theorem RowOf.news {α : Type} {f : α → Value} {d : α} {w : World} {b o : Nat} {xs : List α} (h : RowOf f d w (some ⟨b, o, none⟩) xs) : ∀ j u, (xs.map f)[j]? = some u → w.cell? ((⟨b, o, none⟩ : Addr).add j) = some u := by
  intro j u hu
  rw [Addr.add_mk]
  rw [List.getElem?_map] at hu
  cases hx : xs[j]? with
  | none => rw [hx] at hu; cases hu
  | some x =>
    rw [hx] at hu
    simp at hu
    subst hu
    have hj : j < xs.length := (List.getElem?_eq_some_iff.1 hx).1
    obtain ⟨b', o', h1, h2⟩ := h j hj
    simp only [Option.some.injEq, Addr.mk.injEq, and_true] at h1
    obtain ⟨rfl, rfl⟩ := h1
    rw [h2]
    simp [List.getD_eq_getElem?_getD, hx]
end Go
