/- Lists of pictures: what the laws do with them. -/
import Derived.Test.YtkpgelhmeokemaaGreatDoorLMat
namespace Go.Proofs.YtkpgelhmeokemaaGreatDoor
open Go Go.RowKit
/-- Pictures in memory: a row of slices of rows of text. -/
def PcsAt (w : World) (a : Option Addr) (A : Nat → Option Addr) (C : Nat → Nat) (m : List (List ByteArray)) : Prop :=
  ∀ r, r < m.length → (∃ b o, a = some ⟨b, o, none⟩ ∧ w.cell? ⟨b, o + r, none⟩ = some (.slice (A r) (m.getD r []).length (C r))) ∧ RowS w (A r) (m.getD r [])
theorem PcsAt.ext {w w' : World} {a : Option Addr} {A : Nat → Option Addr} {C : Nat → Nat} {m : List (List ByteArray)} (h : PcsAt w a A C m) (hx : w.Ext w') : PcsAt w' a A C m :=
  fun r hr => let ⟨⟨b, o, h1, h2⟩, h3⟩ := h r hr; ⟨⟨b, o, h1, hx.cell h2⟩, RowOf.ext h3 hx⟩
/-- The same, in memory that may be written, each row in a block of its own. -/
structure OwnPcs (lo hi : Nat) (w : World) (a : Option Addr) (A : Nat → Option Addr) (C : Nat → Nat) (m : List (List ByteArray)) : Prop where
  outer : ∀ r, r < m.length → ∃ b o, a = some ⟨b, o, none⟩ ∧ lo ≤ b ∧ b < hi ∧ w.cell? ⟨b, o + r, none⟩ = some (.slice (A r) (m.getD r []).length (C r)) ∧
    ∀ s b' o', s < m.length → A s = some ⟨b', o', none⟩ → b' ≠ b
  rows : ∀ r, r < m.length → OwnOf Value.string ByteArray.empty lo hi w (A r) (m.getD r [])
  apart : ∀ r s b o b' o', r < m.length → s < m.length → r ≠ s → A r = some ⟨b, o, none⟩ → A s = some ⟨b', o', none⟩ → b ≠ b'
section
variable {lo hi lo' hi' : Nat} {w w' : World} {a : Option Addr} {A : Nat → Option Addr} {C : Nat → Nat} {m : List (List ByteArray)}
theorem OwnPcs.mat (h : OwnPcs lo hi w a A C m) : PcsAt w a A C m :=
  fun r hr => ⟨let ⟨b, o, h1, _, _, h4, _⟩ := h.outer r hr; ⟨b, o, h1, h4⟩, (h.rows r hr).row⟩
theorem OwnPcs.mono (h : OwnPcs lo hi w a A C m) (hl : lo' ≤ lo) (hh : hi ≤ hi') : OwnPcs lo' hi' w a A C m :=
  ⟨fun r hr => let ⟨b, o, h1, h2, h3, h4, h5⟩ := h.outer r hr; ⟨b, o, h1, Nat.le_trans hl h2, Nat.lt_of_lt_of_le h3 hh, h4, h5⟩, fun r hr => (h.rows r hr).mono hl hh, h.apart⟩
theorem OwnPcs.wrote {S : Nat → Prop} (h : OwnPcs lo hi w a A C m) (hx : Wrote S w w') (hs : ∀ k, lo ≤ k → k < hi → ¬ S k) : OwnPcs lo hi w' a A C m :=
  ⟨fun r hr => let ⟨b, o, h1, h2, h3, h4, h5⟩ := h.outer r hr; ⟨b, o, h1, h2, h3, hx.cell h4 (hs b h2 h3), h5⟩, fun r hr => (h.rows r hr).wrote hx hs, h.apart⟩
theorem OwnPcs.ext (h : OwnPcs lo hi w a A C m) (hx : w.Ext w') : OwnPcs lo hi w' a A C m := h.wrote (hx.wrote fun _ => False) fun _ _ _ => id
end
def PcsLen (m : List (List ByteArray)) : Prop := m.length ≤ maxLen ∧ ∀ r, PicLen (m.getD r [])
def PcsBnd (m : List (List ByteArray)) : Prop := m.length ≤ 1048576 ∧ ∀ r, PicBnd (m.getD r [])
def offP (m : List (List ByteArray)) : Nat → Nat
  | 0 => 0
  | r + 1 => offP m r + (m.getD r []).length
theorem offP_mono (m : List (List ByteArray)) (r s : Nat) (h : r ≤ s) : offP m r ≤ offP m s := by
  induction s with
  | zero => rw [Nat.le_zero.1 h]; exact Nat.le_refl _
  | succ s ih =>
    by_cases e : r = s + 1
    · rw [e]; exact Nat.le_refl _
    · have := ih (by omega); show offP m r ≤ offP m s + _; omega
theorem getD_out {α : Type} {l : List α} {i : Nat} {d : α} (h : l.length ≤ i) : l.getD i d = d := by rw [List.getD_eq_getElem?_getD, List.getElem?_eq_none h]; rfl
theorem picBnd_nil : PicBnd [] := ⟨by simp, fun r => by simp⟩
theorem Tryz.infoPicS : (Tryz.prog.info? 31).map (fun i => (i.zero, i.size, i.bytes)) = some (some (.agg #[.slice none 0 0]), 1, 24) := by kernel_rfl
def rowW (m : List (List ByteArray)) (G : Nat → Nat) (r : Nat) : Value := .slice (some ⟨G r, 0, none⟩) (m.getD r []).length (m.getD r []).length
def rowsW (m : List (List ByteArray)) (G : Nat → Nat) (k : Nat) : List Value := (List.range k).map (rowW m G) ++ List.replicate (m.length - k) (.slice none 0 0)
theorem rowsW_len (m : List (List ByteArray)) (G : Nat → Nat) (k : Nat) (h : k ≤ m.length) : (rowsW m G k).length = m.length := by simp [rowsW]; omega
theorem rowsW_zero (m : List (List ByteArray)) (G : Nat → Nat) : rowsW m G 0 = List.replicate m.length (.slice none 0 0) := by simp [rowsW]
theorem rowsW_set (m : List (List ByteArray)) (G : Nat → Nat) (k g : Nat) (h : k < m.length) :
    (rowsW m G k).set k (.slice (some ⟨g, 0, none⟩) (m.getD k []).length (m.getD k []).length) = rowsW m (fun r => if r = k then g else G r) (k + 1) := by
  unfold rowsW
  rw [List.set_append_right _ _ (by simp)]
  obtain ⟨n, hn⟩ : ∃ n, m.length - k = n + 1 := ⟨m.length - k - 1, by omega⟩
  rw [show m.length - (k + 1) = n by omega, hn, List.replicate_succ]
  rw [show k - (List.map (rowW m G) (List.range k)).length = 0 by simp, List.set_cons_zero]
  rw [List.range_succ, List.map_append, List.append_assoc]
  congr 1
  · apply List.map_congr_left
    intro r hr
    have : r ≠ k := by have := List.mem_range.1 hr; omega
    simp [rowW, this]
  · simp [rowW]
theorem rowsW_at (m : List (List ByteArray)) (G : Nat → Nat) (r : Nat) (h : r < m.length) : (rowsW m G m.length).getD r undef = rowW m G r := by
  simp [rowsW, List.getD_eq_getElem?_getD, h]
/-- What lies there after k pictures. -/
structure SomePcs (w0 wr : World) (g : Nat) (m : List (List ByteArray)) (k : Nat) (G : Nat → Nat) : Prop where
  ext : w0.Ext wr
  blk : BlkOf id wr g 31 (rowsW m G k)
  lo : w0.heap.size ≤ g
  rows : ∀ r, r < k → OwnOf Value.string ByteArray.empty w0.heap.size wr.heap.size wr (some ⟨G r, 0, none⟩) (m.getD r []) ∧ g < G r ∧ G r < wr.heap.size
  up : ∀ r s, r < s → s < k → G r < G s
theorem OwnOf.box {α : Type} {f : α → Value} {d : α} {lo hi : Nat} {w : World} {a : Option Addr} {xs : List α} (h : OwnOf f d lo hi w a xs) {p : Addr} (hp : ∀ b o, a = some ⟨b, o, none⟩ → b ≠ p.block) (v : Value) : OwnOf f d lo hi (w.setCell p v) a xs := fun i hi => by
  obtain ⟨b, o, h1, h2, h3, h4, h5⟩ := h i hi
  have hne := hp b o h1
  have hb := Below.heap_setCell w p v b hne
  refine ⟨b, o, h1, h2, h3, ?_, ?_⟩
  · rw [World.cell?_of_block (a := ⟨b, o + i, none⟩) hb]; exact h4
  · unfold World.frozen? at h5 ⊢
    dsimp only at h5 ⊢
    rw [hb]; exact h5
theorem SomePcs.next {w0 wr w2 : World} {g : Nat} {m : List (List ByteArray)} {k : Nat} {G : Nat → Nat} (h : SomePcs w0 wr g m k G) (hk : k < m.length) (hx : wr.Ext w2) (g' : Nat) (hg' : wr.heap.size ≤ g') (hg2 : g' < w2.heap.size)
    (hb : OwnOf Value.string ByteArray.empty wr.heap.size w2.heap.size w2 (some ⟨g', 0, none⟩) (m.getD k [])) :
    SomePcs w0 (w2.setCell ⟨g, k, none⟩ (.slice (some ⟨g', 0, none⟩) (m.getD k []).length (m.getD k []).length)) g m (k + 1) (fun r => if r = k then g' else G r) := by
  have hlt := h.blk.lt
  have hsz := hx.size
  have hs0 := h.ext.size
  have hs2 : (w2.setCell ⟨g, k, none⟩ (.slice (some ⟨g', 0, none⟩) (m.getD k []).length (m.getD k []).length)).heap.size = w2.heap.size := by simp [World.setCell]
  refine ⟨(h.ext.trans hx).setCell h.lo _, ?_, h.lo, fun r hr => ?_, fun r s hrs hs => ?_⟩
  · rw [← rowsW_set m G k g' hk]
    exact (h.blk.ext hx).set k (.slice (some ⟨g', 0, none⟩) (m.getD k []).length (m.getD k []).length)
  · rw [hs2]
    by_cases e : r = k
    · subst e
      simp only [if_true]
      exact ⟨OwnOf.box (hb.mono (by omega) (Nat.le_refl _)) (fun b o he => by simp at he; dsimp only; omega) _, by omega, hg2⟩
    · simp only [e, if_false]
      obtain ⟨h1, h2, h3⟩ := h.rows r (by omega)
      exact ⟨OwnOf.box ((h1.ext hx).mono (Nat.le_refl _) hsz) (fun b o he => by simp at he; dsimp only; omega) _, h2, by omega⟩
  · by_cases e : s = k
    · have e' : r ≠ k := by omega
      simp only [e, e', if_true, if_false]
      have := (h.rows r (by omega)).2.2
      omega
    · have e' : r ≠ k := by omega
      simp only [e, e', if_false]
      exact h.up r s hrs (by omega)
theorem SomePcs.own {w0 wr : World} {g : Nat} {m : List (List ByteArray)} {G : Nat → Nat} (h : SomePcs w0 wr g m m.length G) :
    OwnPcs w0.heap.size wr.heap.size wr (some ⟨g, 0, none⟩) (fun r => some ⟨G r, 0, none⟩) (fun r => (m.getD r []).length) m := by
  refine ⟨fun r hr => ⟨g, 0, rfl, h.lo, h.blk.lt, ?_, ?_⟩, fun r hr => (h.rows r hr).1, ?_⟩
  · rw [Nat.zero_add, h.blk.cell undef (by rw [rowsW_len _ _ _ (Nat.le_refl _)]; exact hr), rowsW_at m G r hr]
    rfl
  · intro s b' o' hs hb
    simp only [Option.some.injEq, Addr.mk.injEq, and_true] at hb
    have := (h.rows s hs).2.1
    omega
  · intro r s b o b' o' hr hs hne hb hb'
    simp only [Option.some.injEq, Addr.mk.injEq, and_true] at hb hb'
    rcases Nat.lt_or_gt_of_ne hne with h1 | h1
    · have := h.up r s h1 hs; omega
    · have := h.up s r h1 hr; omega
theorem OwnOf.blk {α : Type} {f : α → Value} {d : α} {lo hi b o : Nat} {w : World} {xs : List α} (h : OwnOf f d lo hi w (some ⟨b, o, none⟩) xs) : OwnOf f d b (b + 1) w (some ⟨b, o, none⟩) xs := fun i hi => by
  obtain ⟨b', o', h1, h2, h3, h4⟩ := h i hi
  cases h1
  exact ⟨_, _, rfl, Nat.le_refl _, Nat.lt_succ_self _, h4⟩
/-- Of which the first k pictures have been marked. -/
structure HalfP (lo hi : Nat) (w0 w : World) (a : Option Addr) (A : Nat → Option Addr) (C : Nat → Nat) (m : List (List ByteArray)) (k : Nat) : Prop where
  wrote : Wrote (fun b => lo ≤ b ∧ b < hi) w0 w
  outer : ∀ r, r < m.length → ∃ b o, a = some ⟨b, o, none⟩ ∧ lo ≤ b ∧ b < hi ∧ w.cell? ⟨b, o + r, none⟩ = some (.slice (A r) (m.getD r []).length (C r)) ∧
    ∀ s b' o', s < m.length → A s = some ⟨b', o', none⟩ → b' ≠ b
  rows : ∀ r, r < m.length → k ≤ r → OwnOf Value.string ByteArray.empty lo hi w (A r) (m.getD r [])
  apart : ∀ r s b o b' o', r < m.length → s < m.length → r ≠ s → A r = some ⟨b, o, none⟩ → A s = some ⟨b', o', none⟩ → b ≠ b'
theorem HalfP.next {lo hi : Nat} {w0 w w' : World} {a : Option Addr} {A : Nat → Option Addr} {C : Nat → Nat} {m : List (List ByteArray)} {k : Nat} (h : HalfP lo hi w0 w a A C m k) (hk : k < m.length)
    (hw : Wrote (fun b => lo ≤ b ∧ b < hi ∧ ∃ o, A k = some ⟨b, o, none⟩) w w') : HalfP lo hi w0 w' a A C m (k + 1) := by
  refine ⟨h.wrote.trans (hw.mono fun b _ hb => ⟨hb.1, hb.2.1⟩), fun r hr => ?_, fun r hr hkr => ?_, h.apart⟩
  · obtain ⟨b, o, h1, h2, h3, h4, h5⟩ := h.outer r hr
    exact ⟨b, o, h1, h2, h3, hw.cell h4 (fun ⟨_, _, o', ho'⟩ => h5 k b o' hk ho' rfl), h5⟩
  · have hne : ∀ b o, A r = some ⟨b, o, none⟩ → ¬ (lo ≤ b ∧ b < hi ∧ ∃ o, A k = some ⟨b, o, none⟩) := fun b o hb ⟨_, _, o', hb'⟩ => h.apart r k b o b o' hr hk (by omega) hb hb' rfl
    exact OwnOf.wroteAt (h.rows r hr (by omega)) hw hne
end Go.Proofs.YtkpgelhmeokemaaGreatDoor
namespace Go.Proofs.YtkpgelhmeokemaaGreatDoor
open Go.ChangeShapes Go.WideShapes Go.RowKit Go.Deep Go.Joins
section
variable {H : Type} {enc : TypeId × Value → H} {P : Program} {w : World} {base : Nat} {spare : Nat → Bool} {held : Bool}
theorem open_pcs {t e s : TypeId} {f0 : Field} {fuel : Nat} {v0 : Value} {x : DataW H × List MemPlace} (ht : P.underlying t = some (.slice e)) (he : P.underlying e = some (.struct #[f0])) (hone : oneCellFields P #[f0] = true)
    (hC : P.cellsOf e = 1) (hf : P.underlying f0.type = some (.slice s)) (hs : P.underlying s = some .string) (hcs : P.cellsOf s = 1) (h : DataW.trod enc P w base (fun _ => true) held fuel t [v0] = some x) :
    ∃ (a : Option Addr) (c : Nat) (A : Nat → Option Addr) (C : Nat → Nat) (m : List (List ByteArray)), v0 = .slice a m.length c ∧ PcsAt w a A C m ∧ PcsLen m := by
  rcases open_slice1 ht hC h with ⟨h0, _⟩ | ⟨a, len, cap, m, n, V, D, Pl, h0, _, hl, hm, hmm, _, hx⟩
  · exact ⟨none, 0, fun _ => none, fun _ => 0, [], by simpa using h0, fun r hr => by simp at hr, by simp, fun r => ⟨by simp, fun r => by simp⟩⟩
  simp only [if_true] at hmm
  subst hmm
  have hv0 : v0 = .slice (some a) len m := by simpa using h0
  obtain ⟨o0, k0⟩ := hone_of hone 0 f0 rfl
  have each : ∀ r, r < m → ∃ y : Option Addr × Nat × List ByteArray, V r = .slice y.1 y.2.2.length y.2.1 ∧ RowS w y.1 y.2.2 ∧ PicLen y.2.2 := fun r hr => by
    obtain ⟨y0, n', _, _, hy⟩ := trod_struct1 he (hx r hr).2
    have hy' : DataW.trod enc P w base (fun _ => true) held n' f0.type [V r] = some y0 := by simpa [o0, k0] using hy
    obtain ⟨a', c', ss, h1, h2, h3, h4⟩ := open_texts hf hs hcs hy'
    exact ⟨(a', c', ss), h1, h2, h3, h4⟩
  obtain ⟨y, hy⟩ := choose_lt each
  have hlm : len ≤ m := hl
  have hg : ∀ r, r < len → ((List.range len).map fun r => (y r).2.2).getD r [] = (y r).2.2 := fun r hr => by simp [List.getD_eq_getElem?_getD, hr]
  refine ⟨some a, m, fun r => (y r).1, fun r => (y r).2.1, (List.range len).map fun r => (y r).2.2, by simpa using hv0, fun r hr => ?_, by simp; omega, fun r => ?_⟩
  · have hr' : r < len := by simpa using hr
    obtain ⟨q1, q2, q3⟩ := hy r (by omega)
    have hc := (hx r (by omega)).1
    obtain ⟨b, o, rfl⟩ := spot_none (hx 0 (by omega)).1
    rw [add_at] at hc
    rw [hg r hr']
    exact ⟨⟨b, o, rfl, by rw [hc, q1]⟩, q2⟩
  · by_cases hr : r < len
    · rw [hg r hr]; exact (hy r (by omega)).2.2
    · rw [getD_out (by simp; omega)]; exact ⟨by simp, fun r => by simp⟩
end
end Go.Proofs.YtkpgelhmeokemaaGreatDoor
