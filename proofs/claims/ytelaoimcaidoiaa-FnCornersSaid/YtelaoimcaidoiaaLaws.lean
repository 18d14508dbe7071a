/- What the laws do with their arguments and results. -/
import Derived.Test.YtelaoimcaidoiaaMem
import Derived.Test.YtelaoimcaidoiaaProg
import Derived.Deep.QuietTactic
import Derived.BigQuiet
import Derived.Lib.SmallJoins
import Derived.Deep.Matrix
import Derived.Deep.Strs
import Derived.Deep.SlicePairs
namespace Go.Proofs.Ytelaoimcaidoiaa
open Go.RowKit
theorem Try.infoI64 : (Try.prog.info? 2).map (fun i => (i.zero, i.size, i.bytes)) = some (some (.int .i64 0), 1, 8) := by kernel_rfl
def szS (left : Int) (n : Nat) : Int := if left - n < 0 then -1 else left - n
def szGo : Int → List Nat → Int
  | left, [] => left
  | left, n :: ns => if left - n < 0 then -1 else szGo (left - n) ns
def szSS (left : Int) (ns : List Nat) : Int := if left - ns.length < 0 then -1 else szGo (left - ns.length) ns
theorem szGo_neg (l : List Nat) : ∀ left : Int, left ≤ -1 → szGo left l ≤ -1 := by
  induction l with
  | nil => intro left h; exact h
  | cons n ns ih => intro left h; unfold szGo; rw [if_pos (by omega)]; omega
theorem szGo_le (l : List Nat) : ∀ left : Int, 0 ≤ szGo left l → szGo left l + (l.sum : Nat) ≤ left := by
  induction l with
  | nil => intro left _; simp [szGo]
  | cons n ns ih =>
    intro left h
    unfold szGo at h ⊢
    split at h
    · omega
    · rename_i hn
      rw [if_neg hn]
      have := ih _ h
      simp only [List.sum_cons] at *
      omega
theorem szGo_drop (left : Int) (l : List Nat) (k : Nat) (h : k < l.length) : szGo left (l.drop k) = if left - (l.getD k 0 : Nat) < 0 then -1 else szGo (left - (l.getD k 0 : Nat)) (l.drop (k + 1)) := by
  rw [List.drop_eq_getElem_cons h]
  simp [szGo, List.getD_eq_getElem?_getD, h]
/-- The rows' values, the rows lying in blocks 'G'. -/
def rowV (m : List (List Int)) (G : Nat → Nat) (r : Nat) : Value := .slice (some ⟨G r, 0, none⟩) (m.getD r []).length (m.getD r []).length
def rowsV (m : List (List Int)) (G : Nat → Nat) (k : Nat) : List Value := (List.range k).map (rowV m G) ++ List.replicate (m.length - k) (.slice none 0 0)
theorem rowsV_len (m : List (List Int)) (G : Nat → Nat) (k : Nat) (h : k ≤ m.length) : (rowsV m G k).length = m.length := by simp [rowsV]; omega
theorem rowsV_zero (m : List (List Int)) (G : Nat → Nat) : rowsV m G 0 = List.replicate m.length (.slice none 0 0) := by simp [rowsV]
theorem rowsV_set (m : List (List Int)) (G : Nat → Nat) (k g : Nat) (h : k < m.length) :
    (rowsV m G k).set k (.slice (some ⟨g, 0, none⟩) (m.getD k []).length (m.getD k []).length) = rowsV m (fun r => if r = k then g else G r) (k + 1) := by
  unfold rowsV
  rw [List.set_append_right _ _ (by simp)]
  obtain ⟨n, hn⟩ : ∃ n, m.length - k = n + 1 := ⟨m.length - k - 1, by omega⟩
  rw [show m.length - (k + 1) = n by omega, hn, List.replicate_succ]
  rw [show k - (List.map (rowV m G) (List.range k)).length = 0 by simp, List.set_cons_zero]
  rw [List.range_succ, List.map_append, List.append_assoc]
  congr 1
  · apply List.map_congr_left
    intro r hr
    have : r ≠ k := by have := List.mem_range.1 hr; omega
    simp [rowV, this]
  · simp [rowV]
theorem rowsV_at (m : List (List Int)) (G : Nat → Nat) (r : Nat) (h : r < m.length) : (rowsV m G m.length).getD r undef = rowV m G r := by
  simp [rowsV, List.getD_eq_getElem?_getD, h]
theorem marked_at (k0 : Int) (zs : List Int) (k : Nat) (h : k < zs.length) : (marksI k0 zs.length).getD k 0 = k0 + k := marksI_at _ _ _ h
def offM (m : List (List Int)) : Nat → Nat
  | 0 => 0
  | r + 1 => offM m r + (m.getD r []).length
theorem offM_mono (m : List (List Int)) (r s : Nat) (h : r ≤ s) : offM m r ≤ offM m s := by
  induction s with
  | zero => rw [Nat.le_zero.1 h]; exact Nat.le_refl _
  | succ s ih =>
    by_cases e : r = s + 1
    · rw [e]; exact Nat.le_refl _
    · have := ih (by omega); show offM m r ≤ offM m s + _; omega
theorem offM_cons (x : List Int) (m : List (List Int)) (r : Nat) : offM (x :: m) (r + 1) = x.length + offM m r := by
  induction r with
  | zero => simp [offM]
  | succ r ih => rw [offM, ih]; simp [offM]; omega
theorem offM_all (m : List (List Int)) : offM m m.length = (m.map List.length).sum := by
  induction m with
  | nil => rfl
  | cons x m ih => rw [List.length_cons, offM_cons, ih]; simp
def marksM (k0 : Int) (m : List (List Int)) : List (List Int) := (List.range m.length).map fun r => marksI (k0 + offM m r) (m.getD r []).length
theorem marksM_len (k0 : Int) (m : List (List Int)) : (marksM k0 m).length = m.length := by simp [marksM]
theorem marksM_at (k0 : Int) (m : List (List Int)) (r : Nat) (h : r < m.length) : (marksM k0 m).getD r [] = marksI (k0 + offM m r) (m.getD r []).length := by
  simp [marksM, List.getD_eq_getElem?_getD, h]
/-- Of which the first k rows are marks. -/
structure HalfM (k0 : Int) (lo hi : Nat) (w0 w : World) (a : Option Addr) (A : Nat → Option Addr) (C : Nat → Nat) (m : List (List Int)) (k : Nat) : Prop where
  wrote : Wrote (fun b => lo ≤ b ∧ b < hi) w0 w
  outer : ∀ r, r < m.length → ∃ b o, a = some ⟨b, o, none⟩ ∧ lo ≤ b ∧ b < hi ∧ w.cell? ⟨b, o + r, none⟩ = some (.slice (A r) (m.getD r []).length (C r)) ∧
    ∀ s b' o', s < m.length → A s = some ⟨b', o', none⟩ → b' ≠ b
  rows : ∀ r, r < m.length → if r < k then OwnOf (Value.int .i64) 0 lo hi w (A r) (marksI (k0 + offM m r) (m.getD r []).length) else OwnOf (Value.int .i64) 0 lo hi w (A r) (m.getD r [])
  apart : ∀ r s b o b' o', r < m.length → s < m.length → r ≠ s → A r = some ⟨b, o, none⟩ → A s = some ⟨b', o', none⟩ → b ≠ b'
theorem OwnOf.wroteAt {α : Type} {f : α → Value} {d : α} {lo hi : Nat} {w w' : World} {a : Option Addr} {xs : List α} {S : Nat → Prop} (h : OwnOf f d lo hi w a xs) (hx : Wrote S w w') (hs : ∀ b o, a = some ⟨b, o, none⟩ → ¬ S b) : OwnOf f d lo hi w' a xs :=
  fun i hi => let ⟨b, o, h1, h2, h2', h3, h4⟩ := h i hi; ⟨b, o, h1, h2, h2', hx.cell h3 (hs b o h1), by rw [hx.frozen h3 (hs b o h1)]; exact h4⟩
theorem HalfM.next {k0 : Int} {lo hi : Nat} {w0 w w' : World} {a : Option Addr} {A : Nat → Option Addr} {C : Nat → Nat} {m : List (List Int)} {k : Nat} (h : HalfM k0 lo hi w0 w a A C m k) (hk : k < m.length)
    (hw : Wrote (fun b => lo ≤ b ∧ b < hi ∧ ∃ o, A k = some ⟨b, o, none⟩) w w') (ho : OwnOf (Value.int .i64) 0 lo hi w' (A k) (marksI (k0 + offM m k) (m.getD k []).length)) : HalfM k0 lo hi w0 w' a A C m (k + 1) := by
  refine ⟨h.wrote.trans (hw.mono fun b _ hb => ⟨hb.1, hb.2.1⟩), fun r hr => ?_, fun r hr => ?_, h.apart⟩
  · obtain ⟨b, o, h1, h2, h3, h4, h5⟩ := h.outer r hr
    exact ⟨b, o, h1, h2, h3, hw.cell h4 (fun ⟨_, _, o', ho'⟩ => h5 k b o' hk ho' rfl), h5⟩
  · have hr0 := h.rows r hr
    by_cases e : r = k
    · subst e
      rw [if_pos (by omega)]
      exact ho
    · have hne : ∀ b o, A r = some ⟨b, o, none⟩ → ¬ (lo ≤ b ∧ b < hi ∧ ∃ o, A k = some ⟨b, o, none⟩) := fun b o hb ⟨_, _, o', hb'⟩ => h.apart r k b o b o' hr hk e hb hb' rfl
      by_cases e2 : r < k
      · rw [if_pos e2] at hr0
        rw [if_pos (by omega)]
        exact OwnOf.wroteAt hr0 hw hne
      · rw [if_neg e2] at hr0
        rw [if_neg (by omega)]
        exact OwnOf.wroteAt hr0 hw hne
theorem HalfM.done {k0 : Int} {lo hi : Nat} {w0 w : World} {a : Option Addr} {A : Nat → Option Addr} {C : Nat → Nat} {m : List (List Int)} (h : HalfM k0 lo hi w0 w a A C m m.length) : OwnMat lo hi w a A C (marksM k0 m) := by
  refine ⟨fun r hr => ?_, fun r hr => ?_, fun r s b o b' o' hr hs => ?_⟩
  · rw [marksM_len] at hr
    obtain ⟨b, o, h1, h2, h3, h4, h5⟩ := h.outer r hr
    refine ⟨b, o, h1, h2, h3, by rw [marksM_at _ _ _ hr, marksI_len]; exact h4, fun s b' o' hs => ?_⟩
    rw [marksM_len] at hs
    exact h5 s b' o' hs
  · rw [marksM_len] at hr
    rw [marksM_at _ _ _ hr]
    have := h.rows r hr
    rwa [if_pos hr] at this
  · rw [marksM_len] at hr hs
    exact h.apart r s b o b' o' hr hs
end Go.Proofs.Ytelaoimcaidoiaa
namespace Go.Proofs.Ytelaoimcaidoiaa
open Go.RowKit
/-- The digits of a number, ahead of others. -/
def digs : Nat → Nat → List UInt8 → List UInt8
  | 0, _, acc => acc
  | f + 1, k, acc => if k = 0 then acc else digs f (k / 10) (UInt8.ofNat (48 + k % 10) :: acc)
def markT (k : Nat) : ByteArray := if k = 0 then ⟨#[109, 48]⟩ else ⟨(109 :: digs k k []).toArray⟩
theorem digs_len : ∀ (f k : Nat) (acc : List UInt8), (digs f k acc).length ≤ f + acc.length
  | 0, _, acc => by simp [digs]
  | f + 1, k, acc => by
    unfold digs
    split
    · omega
    · have := digs_len f (k / 10) (UInt8.ofNat (48 + k % 10) :: acc)
      rw [List.length_cons] at this
      omega
def marksS (k : Nat) (n : Nat) : List ByteArray := (List.range n).map fun i => markT (k + i)
theorem marksS_len (k n : Nat) : (marksS k n).length = n := by simp [marksS]
theorem marksS_at (k n i : Nat) (h : i < n) : (marksS k n).getD i ByteArray.empty = markT (k + i) := by simp [marksS, List.getD_eq_getElem?_getD, h]
theorem markT_size (k : Nat) : (markT k).size ≤ k + 2 := by
  unfold markT
  split
  · show 2 ≤ _; omega
  · have := digs_len k k []
    simp [ByteArray.size] at *
    omega
end Go.Proofs.Ytelaoimcaidoiaa
namespace Go.Proofs.Ytelaoimcaidoiaa
open Go.RowKit
end Go.Proofs.Ytelaoimcaidoiaa
namespace Go.Proofs.Ytelaoimcaidoiaa
open Go.RowKit
def PicLen (s : List ByteArray) : Prop := s.length ≤ maxLen ∧ ∀ r, (s.getD r ByteArray.empty).size ≤ maxLen
def PicBnd (s : List ByteArray) : Prop := s.length ≤ 1048576 ∧ ∀ r, (s.getD r ByteArray.empty).size ≤ 1048576
def MatLen (m : List (List Int)) : Prop := m.length ≤ maxLen ∧ ∀ r, (m.getD r []).length ≤ maxLen
def MatBnd (m : List (List Int)) : Prop := m.length ≤ 1048576 ∧ ∀ r, (m.getD r []).length ≤ 1048576
def IntsLen (s : List Int) : Prop := s.length ≤ maxLen
def IntsBnd (s : List Int) : Prop := s.length ≤ 1048576
section
variable {w0 w w' : World} {a b c d f g : Addr} {v1 v2 v3 v4 v5 v6 : Value}
theorem keepR1 (h : w.cell? a = some v1 ∧ w0.Ext w) (hx : w.Ext w') : w'.cell? a = some v1 ∧ w0.Ext w' := ⟨hx.cell h.1, h.2.trans hx⟩
theorem keepR2 (h : w.cell? a = some v1 ∧ w.cell? b = some v2 ∧ w0.Ext w) (hx : w.Ext w') : w'.cell? a = some v1 ∧ w'.cell? b = some v2 ∧ w0.Ext w' := ⟨hx.cell h.1, hx.cell h.2.1, h.2.2.trans hx⟩
theorem keepR3 (h : w.cell? a = some v1 ∧ w.cell? b = some v2 ∧ w.cell? c = some v3 ∧ w0.Ext w) (hx : w.Ext w') : w'.cell? a = some v1 ∧ w'.cell? b = some v2 ∧ w'.cell? c = some v3 ∧ w0.Ext w' :=
  ⟨hx.cell h.1, hx.cell h.2.1, hx.cell h.2.2.1, h.2.2.2.trans hx⟩
theorem keepR4 (h : w.cell? a = some v1 ∧ w.cell? b = some v2 ∧ w.cell? c = some v3 ∧ w.cell? d = some v4 ∧ w0.Ext w) (hx : w.Ext w') : w'.cell? a = some v1 ∧ w'.cell? b = some v2 ∧ w'.cell? c = some v3 ∧ w'.cell? d = some v4 ∧ w0.Ext w' :=
  ⟨hx.cell h.1, hx.cell h.2.1, hx.cell h.2.2.1, hx.cell h.2.2.2.1, h.2.2.2.2.trans hx⟩
end
theorem RowS.ext {w w' : World} {a : Option Addr} {s : List ByteArray} (h : RowS w a s) (hx : w.Ext w') : RowS w' a s := RowOf.ext h hx
theorem RowI.ext {w w' : World} {a : Option Addr} {s : List Int} (h : RowI w a s) (hx : w.Ext w') : RowI w' a s := RowOf.ext h hx
theorem newCell1 {w w' : World} {v : Value} {T : TypeId} (h : (w.alloc (.cells #[v] T)).Ext w') : w'.cell? ⟨w.heap.size, 0, none⟩ = some v ∧ w'.frozen? ⟨w.heap.size, 0, none⟩ = false :=
  ⟨h.cell (by simp [go_sem]), h.free (v := v) (by simp [go_sem]) (by simp [go_sem])⟩
theorem newCellD {w w' : World} {v : Value} {T : TypeId} (h : (w.alloc (.cells #[v] T)).drew.Ext w') : w'.cell? ⟨w.heap.size, 0, none⟩ = some v ∧ w'.frozen? ⟨w.heap.size, 0, none⟩ = false := newCell1 (((World.Ext.refl _).drew).trans h)
theorem oldCell1 {w w' : World} {a : Addr} {v : Value} (h : w.cell? a = some v ∧ w.frozen? a = false) (hx : w.Ext w') : w'.cell? a = some v ∧ w'.frozen? a = false := ⟨hx.cell h.1, hx.free h.1 h.2⟩
theorem le_sum_of_mem : ∀ (l : List Nat) (x : Nat), x ∈ l → x ≤ l.sum
  | [], x, h => by cases h
  | y :: l, x, h => by
    rw [List.sum_cons]
    rcases List.mem_cons.1 h with rfl | h
    · omega
    · have := le_sum_of_mem l x h
      omega
theorem szSS_le {left z : Int} {ns : List Nat} (h : szSS left ns = z) (h0 : 0 ≤ z) : z + ns.length + (ns.sum : Nat) ≤ left ∧ ∀ n ∈ ns, (n : Int) ≤ left := by
  unfold szSS at h
  split at h
  · omega
  · have h1 := szGo_le ns (left - ns.length) (by rw [h]; exact h0)
    rw [h] at h1
    refine ⟨by omega, fun n hn => ?_⟩
    have := le_sum_of_mem ns n hn
    omega
theorem szSS_hi {left : Int} (hl : 0 ≤ left) : ∀ ns : List Nat, szSS left ns ≤ left := fun ns => by
  by_cases h : 0 ≤ szSS left ns
  · have := (szSS_le rfl h).1
    omega
  · omega
theorem szGo_drop2 (left : Int) (l : List Nat) (k : Nat) (h : k < l.length) : szGo left (l.drop k) = if left - (l.getD k 0 : Nat) < 0 then -1 else szGo (left - (l.getD k 0 : Nat)) (l.drop (k + 1)) := by
  rw [List.drop_eq_getElem_cons h]
  simp [szGo, List.getD_eq_getElem?_getD, h]
theorem Try.infoStrM : (Try.prog.info? 9).map (fun i => (i.zero, i.size, i.bytes)) = some (some (.string ByteArray.empty), 1, 16) := by kernel_rfl
end Go.Proofs.Ytelaoimcaidoiaa
namespace Go.Proofs.Ytelaoimcaidoiaa
open Go.RowKit
/-- Pairs as the integers in their order. -/
def flatP : List (Int × Int) → List Int
  | [] => []
  | p :: ps => p.1 :: p.2 :: flatP ps
theorem flatP_len : ∀ ps : List (Int × Int), (flatP ps).length = 2 * ps.length
  | [] => rfl
  | p :: ps => by simp [flatP, flatP_len ps]; omega
theorem flatP_fst : ∀ (ps : List (Int × Int)) (i : Nat), (flatP ps).getD (2 * i) 0 = (ps.getD i (0, 0)).1
  | [], i => by simp [flatP]
  | p :: ps, 0 => by simp [flatP]
  | p :: ps, i + 1 => by
    have := flatP_fst ps i
    rw [show 2 * (i + 1) = 2 * i + 1 + 1 by omega]
    simpa [flatP] using this
theorem flatP_snd : ∀ (ps : List (Int × Int)) (i : Nat), (flatP ps).getD (2 * i + 1) 0 = (ps.getD i (0, 0)).2
  | [], i => by simp [flatP]
  | p :: ps, 0 => by simp [flatP]
  | p :: ps, i + 1 => by
    have := flatP_snd ps i
    rw [show 2 * (i + 1) + 1 = 2 * i + 1 + 1 + 1 by omega]
    simpa [flatP] using this
def RowP (w : World) (a : Option Addr) (ps : List (Int × Int)) : Prop := RowOf (Value.int .i64) 0 w a (flatP ps)
def OwnP (lo hi : Nat) (w : World) (a : Option Addr) (ps : List (Int × Int)) : Prop := OwnOf (Value.int .i64) 0 lo hi w a (flatP ps)
def PairLen (s : List (Int × Int)) : Prop := s.length ≤ maxLen
def PairBnd (s : List (Int × Int)) : Prop := s.length ≤ 1048576
section
variable {w w' : World} {a : Option Addr} {ps : List (Int × Int)} {lo hi lo' hi' : Nat}
theorem RowP.ext (h : RowP w a ps) (hx : w.Ext w') : RowP w' a ps := RowOf.ext h hx
theorem OwnP.ext (h : OwnP lo hi w a ps) (hx : w.Ext w') : OwnP lo hi w' a ps := OwnOf.ext h hx
theorem OwnP.row (h : OwnP lo hi w a ps) : RowP w a ps := OwnOf.row h
theorem OwnP.mono (h : OwnP lo hi w a ps) (hl : lo' ≤ lo) (hh : hi ≤ hi') : OwnP lo' hi' w a ps := OwnOf.mono h hl hh
theorem OwnP.wrote {S : Nat → Prop} (h : OwnP lo hi w a ps) (hx : Wrote S w w') (hs : ∀ k, lo ≤ k → k < hi → ¬ S k) : OwnP lo hi w' a ps := OwnOf.wrote h hx hs
theorem RowP.at (h : RowP w a ps) {i : Nat} (hi : i < ps.length) : ∃ b o, a = some ⟨b, o, none⟩ ∧ w.cell? ⟨b, o + i * 2, none⟩ = some (.int .i64 (ps.getD i (0, 0)).1) ∧ w.cell? ⟨b, o + i * 2 + 1, none⟩ = some (.int .i64 (ps.getD i (0, 0)).2) := by
  have hl := flatP_len ps
  obtain ⟨b, o, e, h1⟩ := h (2 * i) (by omega)
  obtain ⟨b', o', e', h2⟩ := h (2 * i + 1) (by omega)
  rw [e] at e'
  cases e'
  rw [flatP_fst] at h1
  rw [flatP_snd] at h2
  exact ⟨b, o, e, by rw [Nat.mul_comm i 2]; exact h1, by rw [Nat.mul_comm i 2, Nat.add_assoc]; exact h2⟩
end
theorem Try.infoSpotM : (Try.prog.info? 33).map (fun i => (i.zero, i.size, i.bytes)) = some (some (.agg #[.int .i64 0, .int .i64 0]), 2, 16) := by kernel_rfl
theorem blkP_of_made {w : World} {base g n : Nat} {e : TypeId} {z : Value} (hz : z.cells = #[.int .i64 0, .int .i64 0])
    (h : w.ownsRow base e 2 (.slice (some ⟨g, 0, none⟩) n n) n (madeCells z.cells (n * 2)).toList) : BlkOf (Value.int .i64) w g e (List.replicate (2 * n) 0) := by
  obtain ⟨h1, h2⟩ := h
  rcases h2 with ⟨h2, _⟩ | ⟨g', cap, cur, hv, _, hh, _, _, hs, ht⟩
  · cases h2
  · simp only [Value.slice.injEq, Option.some.injEq, Addr.mk.injEq, and_true] at hv
    obtain ⟨rfl, -, rfl⟩ := hv
    unfold BlkOf
    rw [hh]
    have e1 : cur.toList.take (n * 2) = cur.toList := List.take_of_length_le (by simp [hs])
    rw [e1] at ht
    have e2 : cur = (cur.toList).toArray := by simp
    rw [e2, ht, hz]
    congr 2
    apply Array.ext
    · simp [size_madeCells, Nat.mul_comm]
    · intro i h3 h4
      simp only [madeCells, Array.toArray_toList, Array.getElem_map, Array.getElem_range]
      have : i % 2 = 0 ∨ i % 2 = 1 := by omega
      rcases this with h5 | h5 <;> simp [h5]
end Go.Proofs.Ytelaoimcaidoiaa
namespace Go.Proofs.Ytelaoimcaidoiaa
open Go.ChangeShapes Go.WideShapes Go.RowKit Go.Deep Go.Joins
section
variable {H : Type} {enc : TypeId × Value → H} {P : Program} {w : World} {base : Nat} {spare : Nat → Bool} {held : Bool}
theorem spot_none {a : Addr} {v : Value} (h : w.cell? (a.add 0) = some v) : ∃ b o, a = ⟨b, o, none⟩ := by
  obtain ⟨b, o, spot⟩ := a
  have hspot : spot = none := by simpa [Addr.add] using World.cell?_spot h
  subst hspot
  exact ⟨b, o, rfl⟩
theorem add_at (b o i : Nat) : (⟨b, o, none⟩ : Addr).add i = ⟨b, o + i, none⟩ := by
  unfold Addr.add
  by_cases h : i = 0
  · simp [h]
  · simp [h]
theorem open_agg1 {r : Reach} {b0 : Nat} {t : TypeId} {f0 : Field} {v : Value} {d : DataW H} {p : List MemPlace} (hs : P.underlying t = some (.struct #[f0])) (hone : oneCellFields P #[f0] = true) (hC : P.cellsOf t = 1)
    (hv : Value.okWide P w r b0 t v) (h : DataW.Trod enc P w base spare held t v d p) :
    ∃ (v0 : Value) (y0 : DataW H × List MemPlace) (n : Nat), v = .agg #[v0] ∧ DataW.trod enc P w base spare held n f0.type [v0] = some y0 := by
  obtain ⟨cs, rfl, hsz⟩ := okWide_struct hs hv
  obtain ⟨c0, rfl⟩ : ∃ c0, cs = #[c0] := by
    have : cs.size = 1 := hsz.trans hC
    rcases cs with ⟨l⟩
    match l, this with
    | [c0], _ => exact ⟨c0, rfl⟩
  obtain ⟨fuel, hf⟩ := h
  obtain ⟨y0, n, _, _, h0⟩ := trod_struct1 hs hf
  obtain ⟨o0, k0⟩ := hone_of hone 0 f0 rfl
  exact ⟨c0, y0, n, rfl, by simpa [Value.cells, o0, k0] using h0⟩
theorem open_rows {t e q : TypeId} {fuel : Nat} {v0 : Value} {x : DataW H × List MemPlace} (ht : P.underlying t = some (.slice e)) (he : P.underlying e = some (.slice q)) (hq : P.underlying q = some (.int .i64))
    (ce : P.cellsOf e = 1) (cq : P.cellsOf q = 1) (h : DataW.trod enc P w base (fun _ => true) held fuel t [v0] = some x) :
    ∃ (a : Option Addr) (c : Nat) (A : Nat → Option Addr) (C : Nat → Nat) (m : List (List Int)), v0 = .slice a m.length c ∧ MatAt w a A C m ∧ m.length ≤ maxLen ∧ ∀ r, (m.getD r []).length ≤ maxLen := by
  rcases open_int_rows ht he hq ce cq h with ⟨h0, _⟩ | ⟨a, len, cap, A, L, C, Z, h0, _, hl, hm, _, hx⟩
  · exact ⟨none, 0, fun _ => none, fun _ => 0, [], by simpa using h0, fun r hr => by simp at hr, by simp, fun r => by simp⟩
  have hv0 : v0 = .slice (some a) len cap := by simpa using h0
  refine ⟨some a, cap, A, C, (List.range len).map fun r => (Z r).take (L r), by simpa using hv0, fun r hr => ?_, by simp; omega, fun r => ?_⟩
  · have hr' : r < len := by simpa using hr
    obtain ⟨q1, q2, q3, q4, _, q6, q7⟩ := hx r (by omega)
    have hg : ((List.range len).map fun r => (Z r).take (L r)).getD r [] = (Z r).take (L r) := by simp [List.getD_eq_getElem?_getD, hr']
    have hgl : ((Z r).take (L r)).length = L r := by simp; omega
    rw [hg]
    obtain ⟨b, o, rfl⟩ := spot_none (hx 0 (by omega)).1
    rw [add_at] at q1
    refine ⟨⟨b, o, rfl, by rw [hgl]; exact q1⟩, fun i hi => ?_⟩
    rw [hgl] at hi
    cases hA : A r with
    | none => have := q6 hA; omega
    | some a' =>
      obtain ⟨_, h7⟩ := q7 a' hA
      obtain ⟨b', o', rfl⟩ := spot_none (h7 0 (by omega))
      refine ⟨b', o', rfl, ?_⟩
      have := h7 i (by omega)
      rw [add_at] at this
      rw [this]
      have e : ((Z r).take (L r)).getD i 0 = (Z r).getD i 0 := by simp [List.getD_eq_getElem?_getD, hi]
      rw [e]
  · by_cases hr : r < len
    · obtain ⟨_, q2, q3, q4, _⟩ := hx r (by omega)
      simp [List.getD_eq_getElem?_getD, hr]; omega
    · simp [List.getD_eq_getElem?_getD, hr]
theorem open_texts {t e : TypeId} {fuel : Nat} {v0 : Value} {x : DataW H × List MemPlace} (ht : P.underlying t = some (.slice e)) (he : P.underlying e = some .string) (hc : P.cellsOf e = 1)
    (h : DataW.trod enc P w base (fun _ => true) held fuel t [v0] = some x) :
    ∃ (a : Option Addr) (c : Nat) (ss : List ByteArray), v0 = .slice a ss.length c ∧ RowS w a ss ∧ ss.length ≤ maxLen ∧ ∀ r, (ss.getD r ByteArray.empty).size ≤ maxLen := by
  rcases open_strs ht he hc h with ⟨h0, _⟩ | ⟨a, len, cap, m, S, h0, _, hl, hm, hmm, _, hx⟩
  · exact ⟨none, 0, [], by simpa using h0, fun r hr => by simp at hr, by simp, fun r => by simp⟩
  simp only [if_true] at hmm
  subst hmm
  have hv0 : v0 = .slice (some a) len m := by simpa using h0
  refine ⟨some a, m, (List.range len).map S, by simpa using hv0, fun r hr => ?_, by simp; omega, fun r => ?_⟩
  · have hr' : r < len := by simpa using hr
    obtain ⟨q1, q2⟩ := hx r (by omega)
    obtain ⟨b, o, rfl⟩ := spot_none (hx 0 (by omega)).1
    rw [add_at] at q1
    exact ⟨b, o, rfl, by rw [q1]; simp [List.getD_eq_getElem?_getD, hr']⟩
  · by_cases hr : r < len
    · have := (hx r (by omega)).2
      simpa [List.getD_eq_getElem?_getD, hr] using this
    · simp [List.getD_eq_getElem?_getD, hr]
end
end Go.Proofs.Ytelaoimcaidoiaa
namespace Go.Proofs.Ytelaoimcaidoiaa
open Go.ChangeShapes Go.WideShapes Go.RowKit Go.Deep Go.Joins
section
variable {H : Type} {enc : TypeId × Value → H} {P : Program} {w : World} {base : Nat} {spare : Nat → Bool} {held : Bool}
def intOfV : Value → Int
  | .int _ z => z
  | _ => 0
theorem RowP.of_at {w : World} {a : Option Addr} {ps : List (Int × Int)} (h : ∀ i, i < ps.length → ∃ b o, a = some ⟨b, o, none⟩ ∧ w.cell? ⟨b, o + i * 2, none⟩ = some (.int .i64 (ps.getD i (0, 0)).1) ∧ w.cell? ⟨b, o + i * 2 + 1, none⟩ = some (.int .i64 (ps.getD i (0, 0)).2)) : RowP w a ps := by
  intro k hk
  rw [flatP_len] at hk
  obtain ⟨b, o, e, h1, h2⟩ := h (k / 2) (by omega)
  rcases Nat.mod_two_eq_zero_or_one k with hm | hm
  · have ek : k = 2 * (k / 2) := by omega
    refine ⟨b, o, e, ?_⟩
    have e2 : (flatP ps).getD k 0 = (ps.getD (k / 2) (0, 0)).1 := by rw [ek, flatP_fst, ← ek]
    rw [e2, ← h1]
    congr 2
    omega
  · have ek : k = 2 * (k / 2) + 1 := by omega
    refine ⟨b, o, e, ?_⟩
    have e2 : (flatP ps).getD k 0 = (ps.getD (k / 2) (0, 0)).2 := by
      have := flatP_snd ps (k / 2)
      rw [← ek] at this
      exact this
    rw [e2, ← h2]
    congr 2
    omega
theorem open_pairs {t e q : TypeId} {f0 f1 : Field} {fuel : Nat} {v0 : Value} {x : DataW H × List MemPlace} (ht : P.underlying t = some (.slice e)) (he : P.underlying e = some (.struct #[f0, f1])) (t0 : f0.type = q) (t1 : f1.type = q) (hq : P.underlying q = some (.int .i64))
    (ce : P.cellsOf e = 2) (o0 : f0.offset = 0) (o1 : f1.offset = 1) (cq : P.cellsOf q = 1) (h : DataW.trod enc P w base (fun _ => true) held fuel t [v0] = some x) :
    ∃ (a : Option Addr) (c : Nat) (ss : List (Int × Int)), v0 = .slice a ss.length c ∧ RowP w a ss ∧ ss.length ≤ maxLen := by
  rcases open_slice_pairs ht he ce o0 o1 (by rw [t0]; exact cq) (by rw [t1]; exact cq) h with ⟨h0, _⟩ | ⟨a, len, cap, m, n, V0, V1, D0, D1, P0, P1, h0, _, hl, hm, hmm, _, hx⟩
  · exact ⟨none, 0, [], by simpa using h0, RowP.of_at (fun i hi => by simp at hi), by simp⟩
  simp only [if_true] at hmm
  subst hmm
  have hv0 : v0 = .slice (some a) len m := by simpa using h0
  refine ⟨some a, m, (List.range len).map fun i => (intOfV (V0 i), intOfV (V1 i)), by simpa using hv0, RowP.of_at fun i hi => ?_, by simp; omega⟩
  have hi' : i < len := by simpa using hi
  obtain ⟨q1, q2, q3, q4⟩ := hx i (by omega)
  rw [t0] at q3
  rw [t1] at q4
  obtain ⟨z0, e0, _, _⟩ := DataW.trod_int hq q3
  obtain ⟨z1, e1, _, _⟩ := DataW.trod_int hq q4
  simp at e0 e1
  obtain ⟨b, o, rfl⟩ := spot_none (hx 0 (by omega)).1
  rw [add_at] at q1 q2
  refine ⟨b, o, rfl, ?_, ?_⟩
  · rw [q1, e0]; simp [List.getD_eq_getElem?_getD, hi', e0, intOfV]
  · rw [Nat.add_assoc, q2, e1]; simp [List.getD_eq_getElem?_getD, hi', e1, intOfV]
end
end Go.Proofs.Ytelaoimcaidoiaa
