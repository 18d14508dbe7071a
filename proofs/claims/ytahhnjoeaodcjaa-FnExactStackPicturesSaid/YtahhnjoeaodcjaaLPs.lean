/- Lists of pictures: what the laws do with them. -/
import Derived.Test.YtahhnjoeaodcjaaLMat
namespace Go.Proofs.Ytahhnjoeaodcjaa
open Go Go.RowKit
/-- Pictures in memory: a row of slices of rows of text. -/
def PcsAt (w : World) (a : Option Addr) (A : Nat → Option Addr) (C : Nat → Nat) (m : List (List ByteArray)) : Prop :=
  ∀ r, r < m.length → (∃ b o, a = some ⟨b, o, none⟩ ∧ w.cell? ⟨b, o + r, none⟩ = some (.slice (A r) (m.getD r []).length (C r))) ∧ RowS w (A r) (m.getD r [])
theorem PcsAt.ext {w w' : World} {a : Option Addr} {A : Nat → Option Addr} {C : Nat → Nat} {m : List (List ByteArray)} (h : PcsAt w a A C m) (hx : w.Ext w') : PcsAt w' a A C m :=
  fun r hr => let ⟨⟨b, o, h1, h2⟩, h3⟩ := h r hr; ⟨⟨b, o, h1, hx.cell h2⟩, RowOf.ext h3 hx⟩
/-- The same, in memory that may be written, each row in a block of its own. -/
structure OwnPcs (lo hi : Nat) (w : World) (a : Option Addr) (A : Nat → Option Addr) (C : Nat → Nat) (m : List (List ByteArray)) : Prop where
  outer : ∀ r, r < m.length → ∃ b o, a = some ⟨b, o, none⟩ ∧ lo ≤ b ∧ b < hi ∧ w.cell? ⟨b, o + r, none⟩ = some (.slice (A r) (m.getD r []).length (C r)) ∧
    ∀ s b' o', s < m.length → A s = some ⟨b', o', none⟩ → b' ≠ b
  rows : ∀ r, r < m.length → OwnOf Value.string ByteArray.empty lo hi w (A r) (m.getD r [])
  apart : ∀ r s b o b' o', r < m.length → s < m.length → r ≠ s → A r = some ⟨b, o, none⟩ → A s = some ⟨b', o', none⟩ → b ≠ b'
section
variable {lo hi lo' hi' : Nat} {w w' : World} {a : Option Addr} {A : Nat → Option Addr} {C : Nat → Nat} {m : List (List ByteArray)}
theorem OwnPcs.mat (h : OwnPcs lo hi w a A C m) : PcsAt w a A C m :=
  fun r hr => ⟨let ⟨b, o, h1, _, _, h4, _⟩ := h.outer r hr; ⟨b, o, h1, h4⟩, (h.rows r hr).row⟩
theorem OwnPcs.mono (h : OwnPcs lo hi w a A C m) (hl : lo' ≤ lo) (hh : hi ≤ hi') : OwnPcs lo' hi' w a A C m :=
  ⟨fun r hr => let ⟨b, o, h1, h2, h3, h4, h5⟩ := h.outer r hr; ⟨b, o, h1, Nat.le_trans hl h2, Nat.lt_of_lt_of_le h3 hh, h4, h5⟩, fun r hr => (h.rows r hr).mono hl hh, h.apart⟩
theorem OwnPcs.wrote {S : Nat → Prop} (h : OwnPcs lo hi w a A C m) (hx : Wrote S w w') (hs : ∀ k, lo ≤ k → k < hi → ¬ S k) : OwnPcs lo hi w' a A C m :=
  ⟨fun r hr => let ⟨b, o, h1, h2, h3, h4, h5⟩ := h.outer r hr; ⟨b, o, h1, h2, h3, hx.cell h4 (hs b h2 h3), h5⟩, fun r hr => (h.rows r hr).wrote hx hs, h.apart⟩
theorem OwnPcs.ext (h : OwnPcs lo hi w a A C m) (hx : w.Ext w') : OwnPcs lo hi w' a A C m := h.wrote (hx.wrote fun _ => False) fun _ _ _ => id
end
def PcsLen (m : List (List ByteArray)) : Prop := m.length ≤ maxLen ∧ ∀ r, PicLen (m.getD r [])
def PcsBnd (m : List (List ByteArray)) : Prop := m.length ≤ 1048576 ∧ ∀ r, PicBnd (m.getD r [])
def offP (m : List (List ByteArray)) : Nat → Nat
  | 0 => 0
  | r + 1 => offP m r + (m.getD r []).length
theorem offP_mono (m : List (List ByteArray)) (r s : Nat) (h : r ≤ s) : offP m r ≤ offP m s := by
  induction s with
  | zero => rw [Nat.le_zero.1 h]; exact Nat.le_refl _
  | succ s ih =>
    by_cases e : r = s + 1
    · rw [e]; exact Nat.le_refl _
    · have := ih (by omega); show offP m r ≤ offP m s + _; omega
theorem getD_out {α : Type} {l : List α} {i : Nat} {d : α} (h : l.length ≤ i) : l.getD i d = d := by rw [List.getD_eq_getElem?_getD, List.getElem?_eq_none h]; rfl
theorem picBnd_nil : PicBnd [] := ⟨by simp, fun r => by simp⟩
set_option maxHeartbeats 800000 in
theorem szPictureS_ok (a : Option Addr) (c : Nat) (A : Nat → Option Addr) (C : Nat → Nat) (m : List (List ByteArray)) (left : Int) (w : World) (hl : 0 ≤ left) (hl2 : left ≤ 1048576) (hm : PcsAt w a A C m) (hn : PcsLen m) :
    Calls Try.prog 22 #[.slice a m.length c, .int .i64 left] w fun e w' => ∃ z : Int, e = .returned (.int .i64 z) ∧ w.Ext w' ∧ z ≤ left ∧ (0 ≤ z → PcsBnd m ∧ z + offP m m.length ≤ left) := by
  have hn1 := hn.1
  unfold maxLen at hn1
  have HM := Lib.hid hm
  have HL := Lib.hid hn.2
  clear hm hn
  by_cases h : left - m.length < 0
  · go_enter Try.func22, Try.ntmps22
    go_wp2
    go_ret
    exact ⟨-1, rfl, .refl _, by omega, fun h => by omega⟩
  · go_enter Try.func22, Try.ntmps22
    go_wp2
    go_loopw [1, 5] (fun l i wr => ∃ (k : Nat) (z : Int), k ≤ m.length ∧ i = .int .i64 k ∧ l = .int .i64 z ∧ 0 ≤ z ∧ z ≤ 1048576 ∧ Hid ((∀ r, r < k → PicBnd (m.getD r [])) ∧ z + offP m k ≤ left - m.length) ∧ w.Ext wr) (fun _ i _ => m.length - (intOf i).toNat)
    case atStart => exact ⟨0, _, Nat.zero_le _, rfl, rfl, by omega, by omega, ⟨fun r hr => by omega, by simp [offP]⟩, .refl _⟩
    case round =>
      obtain ⟨k, z, hk, rfl, rfl, hz0, hz1, HS, hx⟩ := hrel
      have hzl : z ≤ left := by have := HS.out.2; omega
      by_cases hlt : k < m.length
      · obtain ⟨⟨b, o, rfl, hc⟩, hrow⟩ := (HM.out.ext hx) k hlt
        have HR := Lib.hid hrow
        have HLK := Lib.hid (HL.out k)
        have HNX : Hid (∀ z' : Int, (0 ≤ z' → PicBnd (m.getD k []) ∧ z' + (m.getD k []).length ≤ z) → 0 ≤ z' → (∀ r, r < k + 1 → PicBnd (m.getD r [])) ∧ z' + offP m (k + 1) ≤ left - m.length) := fun z' h1 h0 => by
          obtain ⟨q1, q2⟩ := h1 h0
          refine ⟨fun r hr => ?_, ?_⟩
          · by_cases e : r = k
            · rw [e]; exact q1
            · exact HS.out.1 r (by omega)
          · have := HS.out.2
            show z' + ((offP m k + (m.getD k []).length : Nat) : Int) ≤ _
            omega
        clear hrow
        generalize m.getD k [] = q at *
        have hlt' : (k : Int) < (m.length : Int) := by omega
        have hk0 : (0 : Int) ≤ (k : Int) := by omega
        go_wp2_with fail
        refine (szPicture_ok _ _ q _ _ hz0 hz1 HR.out HLK.out).mono ?_
        rintro e w1 ⟨z', rfl, hx1, hz1', hq⟩
        have HQ := Lib.hid hq
        have HX := Lib.hid (hx.trans hx1)
        clear hq hx1 hc hx
        by_cases hneg : z' < 0
        · go_wp2
          go_ret
          exact ⟨-1, rfl, HX.out, by omega, fun h => by omega⟩
        · have hn0 : ¬ z' < 0 := hneg
          go_wp2
          go_roundw
          case rel => exact ⟨k + 1, z', by omega, by go_num, rfl, by omega, by omega, HNX.out z' HQ.out (by omega), HX.out⟩
          case measure => simp [intOf]; omega
      · have : k = m.length := by omega
        subst this
        have HF : Hid (PcsBnd m ∧ z + offP m m.length ≤ left) := by
          refine ⟨⟨by omega, fun r => ?_⟩, by have := HS.out.2; omega⟩
          by_cases hr : r < m.length
          · exact HS.out.1 r hr
          · rw [getD_out (by omega)]; exact picBnd_nil
        go_wp2
        go_ret
        exact ⟨z, rfl, hx, hzl, fun _ => HF.out⟩
theorem Try.infoPicS : (Try.prog.info? 26).map (fun i => (i.zero, i.size, i.bytes)) = some (some (.agg #[.slice none 0 0]), 1, 24) := by kernel_rfl
def rowW (m : List (List ByteArray)) (G : Nat → Nat) (r : Nat) : Value := .slice (some ⟨G r, 0, none⟩) (m.getD r []).length (m.getD r []).length
def rowsW (m : List (List ByteArray)) (G : Nat → Nat) (k : Nat) : List Value := (List.range k).map (rowW m G) ++ List.replicate (m.length - k) (.slice none 0 0)
theorem rowsW_len (m : List (List ByteArray)) (G : Nat → Nat) (k : Nat) (h : k ≤ m.length) : (rowsW m G k).length = m.length := by simp [rowsW]; omega
theorem rowsW_zero (m : List (List ByteArray)) (G : Nat → Nat) : rowsW m G 0 = List.replicate m.length (.slice none 0 0) := by simp [rowsW]
theorem rowsW_set (m : List (List ByteArray)) (G : Nat → Nat) (k g : Nat) (h : k < m.length) :
    (rowsW m G k).set k (.slice (some ⟨g, 0, none⟩) (m.getD k []).length (m.getD k []).length) = rowsW m (fun r => if r = k then g else G r) (k + 1) := by
  unfold rowsW
  rw [List.set_append_right _ _ (by simp)]
  obtain ⟨n, hn⟩ : ∃ n, m.length - k = n + 1 := ⟨m.length - k - 1, by omega⟩
  rw [show m.length - (k + 1) = n by omega, hn, List.replicate_succ]
  rw [show k - (List.map (rowW m G) (List.range k)).length = 0 by simp, List.set_cons_zero]
  rw [List.range_succ, List.map_append, List.append_assoc]
  congr 1
  · apply List.map_congr_left
    intro r hr
    have : r ≠ k := by have := List.mem_range.1 hr; omega
    simp [rowW, this]
  · simp [rowW]
theorem rowsW_at (m : List (List ByteArray)) (G : Nat → Nat) (r : Nat) (h : r < m.length) : (rowsW m G m.length).getD r undef = rowW m G r := by
  simp [rowsW, List.getD_eq_getElem?_getD, h]
/-- What lies there after k pictures. -/
structure SomePcs (w0 wr : World) (g : Nat) (m : List (List ByteArray)) (k : Nat) (G : Nat → Nat) : Prop where
  ext : w0.Ext wr
  blk : BlkOf id wr g 26 (rowsW m G k)
  lo : w0.heap.size ≤ g
  rows : ∀ r, r < k → OwnOf Value.string ByteArray.empty w0.heap.size wr.heap.size wr (some ⟨G r, 0, none⟩) (m.getD r []) ∧ g < G r ∧ G r < wr.heap.size
  up : ∀ r s, r < s → s < k → G r < G s
theorem OwnOf.box {α : Type} {f : α → Value} {d : α} {lo hi : Nat} {w : World} {a : Option Addr} {xs : List α} (h : OwnOf f d lo hi w a xs) {p : Addr} (hp : ∀ b o, a = some ⟨b, o, none⟩ → b ≠ p.block) (v : Value) : OwnOf f d lo hi (w.setCell p v) a xs := fun i hi => by
  obtain ⟨b, o, h1, h2, h3, h4, h5⟩ := h i hi
  have hne := hp b o h1
  have hb := Below.heap_setCell w p v b hne
  refine ⟨b, o, h1, h2, h3, ?_, ?_⟩
  · rw [World.cell?_of_block (a := ⟨b, o + i, none⟩) hb]; exact h4
  · unfold World.frozen? at h5 ⊢
    dsimp only at h5 ⊢
    rw [hb]; exact h5
theorem SomePcs.next {w0 wr w2 : World} {g : Nat} {m : List (List ByteArray)} {k : Nat} {G : Nat → Nat} (h : SomePcs w0 wr g m k G) (hk : k < m.length) (hx : wr.Ext w2) (g' : Nat) (hg' : wr.heap.size ≤ g') (hg2 : g' < w2.heap.size)
    (hb : OwnOf Value.string ByteArray.empty wr.heap.size w2.heap.size w2 (some ⟨g', 0, none⟩) (m.getD k [])) :
    SomePcs w0 (w2.setCell ⟨g, k, none⟩ (.slice (some ⟨g', 0, none⟩) (m.getD k []).length (m.getD k []).length)) g m (k + 1) (fun r => if r = k then g' else G r) := by
  have hlt := h.blk.lt
  have hsz := hx.size
  have hs0 := h.ext.size
  have hs2 : (w2.setCell ⟨g, k, none⟩ (.slice (some ⟨g', 0, none⟩) (m.getD k []).length (m.getD k []).length)).heap.size = w2.heap.size := by simp [World.setCell]
  refine ⟨(h.ext.trans hx).setCell h.lo _, ?_, h.lo, fun r hr => ?_, fun r s hrs hs => ?_⟩
  · rw [← rowsW_set m G k g' hk]
    exact (h.blk.ext hx).set k (.slice (some ⟨g', 0, none⟩) (m.getD k []).length (m.getD k []).length)
  · rw [hs2]
    by_cases e : r = k
    · subst e
      simp only [if_true]
      exact ⟨OwnOf.box (hb.mono (by omega) (Nat.le_refl _)) (fun b o he => by simp at he; dsimp only; omega) _, by omega, hg2⟩
    · simp only [e, if_false]
      obtain ⟨h1, h2, h3⟩ := h.rows r (by omega)
      exact ⟨OwnOf.box ((h1.ext hx).mono (Nat.le_refl _) hsz) (fun b o he => by simp at he; dsimp only; omega) _, h2, by omega⟩
  · by_cases e : s = k
    · have e' : r ≠ k := by omega
      simp only [e, e', if_true, if_false]
      have := (h.rows r (by omega)).2.2
      omega
    · have e' : r ≠ k := by omega
      simp only [e, e', if_false]
      exact h.up r s hrs (by omega)
theorem SomePcs.own {w0 wr : World} {g : Nat} {m : List (List ByteArray)} {G : Nat → Nat} (h : SomePcs w0 wr g m m.length G) :
    OwnPcs w0.heap.size wr.heap.size wr (some ⟨g, 0, none⟩) (fun r => some ⟨G r, 0, none⟩) (fun r => (m.getD r []).length) m := by
  refine ⟨fun r hr => ⟨g, 0, rfl, h.lo, h.blk.lt, ?_, ?_⟩, fun r hr => (h.rows r hr).1, ?_⟩
  · rw [Nat.zero_add, h.blk.cell undef (by rw [rowsW_len _ _ _ (Nat.le_refl _)]; exact hr), rowsW_at m G r hr]
    rfl
  · intro s b' o' hs hb
    simp only [Option.some.injEq, Addr.mk.injEq, and_true] at hb
    have := (h.rows s hs).2.1
    omega
  · intro r s b o b' o' hr hs hne hb hb'
    simp only [Option.some.injEq, Addr.mk.injEq, and_true] at hb hb'
    rcases Nat.lt_or_gt_of_ne hne with h1 | h1
    · have := h.up r s h1 hs; omega
    · have := h.up s r h1 hr; omega
set_option maxHeartbeats 800000 in
theorem toPicture_at (a : Option Addr) (c : Nat) (s : List ByteArray) (w : World) (hn : PicBnd s) (hm : RowS w a s) :
    Calls Try.prog 42 #[.agg #[.slice a s.length c]] w fun e w' => ∃ g, e = .returned (.agg #[.slice (some ⟨g, 0, none⟩) s.length s.length]) ∧ w.Ext w' ∧ w.heap.size ≤ g ∧ g < w'.heap.size ∧ OwnOf Value.string ByteArray.empty w.heap.size w'.heap.size w' (some ⟨g, 0, none⟩) s := by
  have HM := Lib.hid hm
  have HN := Lib.hid hn
  clear hm hn
  go_enter Try.func42, Try.ntmps42
  go_wp2_with fail
  refine (toStringS_any _ _ s _ HN.out.1 (RowOf.ext HM.out (by repeat (first | exact World.Ext.refl _ | exact ⟨_, rfl⟩ | assumption | refine World.Ext.over ?_ _ | refine World.Ext.drewN ?_ _ | refine World.Ext.drew ?_ | refine World.Ext.alloc ?_ _ | refine World.Ext.setCell ?_ (by simp) _)))).mono ?_
  rintro e w1 ⟨g, rfl, hx, hlg, hS⟩
  have HO := Lib.hid (hS.own ByteArray.empty (lo := w.heap.size) (hi := w1.heap.size) (by simp at hlg; omega) (Nat.le_refl _))
  have hgs : w.heap.size + 3 ≤ g := by simp at hlg; omega
  have hgl := hS.lt
  clear hS
  have q1 := hx.cell (a := ⟨w.heap.size + 1 + 1, 0, none⟩) (v := .slice none 0 0) (by simp [go_sem])
  have q2 := hx.cell (a := ⟨w.heap.size + 1, 0, none⟩) (v := .slice none 0 0) (by simp [go_sem])
  have q3 : w1.frozen? ⟨w.heap.size + 1 + 1, 0, none⟩ = false := hx.free (v := .slice none 0 0) (by simp [go_sem]) (by simp [go_sem])
  have q4 : w1.frozen? ⟨w.heap.size + 1, 0, none⟩ = false := hx.free (v := .slice none 0 0) (by simp [go_sem]) (by simp [go_sem])
  go_wp2
  have hs := hx.size
  simp at hs
  refine bodyPost_ret (v := .agg #[.slice (some ⟨g, 0, none⟩) s.length s.length]) (by simp [results, Try.results42, go_sem, *]) rfl ⟨g, rfl, ?_, by omega, by simp; omega, ?_⟩
  · refine World.Ext.setCell (World.Ext.setCell (World.Ext.trans (by repeat (first | exact World.Ext.refl _ | exact ⟨_, rfl⟩ | assumption | refine World.Ext.over ?_ _ | refine World.Ext.drewN ?_ _ | refine World.Ext.drew ?_ | refine World.Ext.alloc ?_ _ | refine World.Ext.setCell ?_ (by simp) _)) hx) (by simp; omega) _) (by simp) _
  · have hw : Wrote (fun b => b < w.heap.size + 3) w1 ((w1.setCell ⟨w.heap.size + 1 + 1, 0, none⟩ (.slice (some ⟨g, 0, none⟩) s.length s.length)).setCell ⟨w.heap.size + 1, 0, none⟩ (.slice (some ⟨g, 0, none⟩) s.length s.length)) := ((Wrote.refl _ _).setCell (by simp) _).setCell (by simp) _
    have h1 : OwnOf Value.string ByteArray.empty (w.heap.size + 3) w1.heap.size w1 (some ⟨g, 0, none⟩) s := fun i hi => by
      obtain ⟨b, o, e, _, h3, h4⟩ := HO.out i hi
      cases e
      exact ⟨_, _, rfl, hgs, h3, h4⟩
    refine (h1.wrote hw (fun k h2 h3 => by omega)).mono ?_ ?_
    · omega
    · simp
set_option maxHeartbeats 800000 in
theorem toPictureS_ok (a : Option Addr) (c : Nat) (A : Nat → Option Addr) (C : Nat → Nat) (m : List (List ByteArray)) (w : World) (hn : PcsBnd m) (hm : PcsAt w a A C m) :
    Calls Try.prog 24 #[.slice a m.length c] w fun e w' => ∃ g A' C', e = .returned (.slice (some ⟨g, 0, none⟩) m.length m.length) ∧ w.Ext w' ∧ OwnPcs w.heap.size w'.heap.size w' (some ⟨g, 0, none⟩) A' C' m := by
  obtain ⟨i0, hi, hz0, hz1, hz2⟩ := info_parts Try.infoPicS
  have HN := Lib.hid hn.1
  have HR := Lib.hid hn.2
  have HM := Lib.hid hm
  clear hn hm
  have c1 : i0.bytes * m.length ≤ 281474976710656 := by rw [hz2]; have := HN.out; omega
  have c2 : m.length ≤ maxLen := by unfold maxLen; have := HN.out; omega
  have hm : m.length ≤ 9223372036854775807 := by have := HN.out; omega
  have C1 := Lib.hid c1
  have C2 := Lib.hid c2
  clear c1 c2
  go_enter Try.func24, Try.ntmps24
  go_wp2_with (at_make; refine wpList_make_full _ rfl _ _ 48 rfl 0 26 i0 (.agg #[.slice none 0 0]) 1 Try.underlying48 hi hz0 hz1 .i64 .i64 _ _ m.length rfl rfl rfl rfl C1.out C2.out (Nat.zero_le _) (fun w1 hown hgrow => ?_))
  have hb0 := blk_of_made (f := id) (.slice none 0 0) rfl hown
  rw [← rowsW_zero m (fun _ => 0)] at hb0
  have hx0 := World.Ext.made hgrow
  clear hown hgrow
  obtain ⟨g, hg⟩ : ∃ g, g = w.heap.size := ⟨_, rfl⟩
  rw [← hg] at hb0 ⊢
  have hS : SomePcs w w1 g m 0 (fun _ => 0) := ⟨hx0, hb0, by omega, fun r hr => by omega, fun r s _ hs => by omega⟩
  clear hg hb0 hx0
  have HS := Lib.hid hS
  clear hS
  go_loopw [4] (fun i wr => ∃ (k : Nat) (G : Nat → Nat), k ≤ m.length ∧ i = .int .i64 k ∧ Hid (SomePcs w wr g m k G)) (fun i _ => m.length - (intOf i).toNat)
  case atStart => exact ⟨0, _, Nat.zero_le _, rfl, HS⟩
  case round =>
    obtain ⟨k, G, hk, rfl, HS'⟩ := hrel
    by_cases hlt : k < m.length
    · obtain ⟨⟨b, o, rfl, hc⟩, hrow⟩ := (HM.out.ext HS'.out.ext) k hlt
      have hcell := HS'.out.blk.cell undef (by rw [rowsW_len _ _ _ hk]; exact hlt)
      have hfree := HS'.out.blk.free k
      have hlen := HR.out k
      have hnext := fun w2 hx2 g' hg2 hg3 hb2 => HS'.out.next (w2 := w2) hlt hx2 g' hg2 hg3 hb2
      have hlt' : (k : Int) < (m.length : Int) := by omega
      have hk0 : (0 : Int) ≤ (k : Int) := by omega
      generalize m.getD k [] = q at hc hrow hlen hnext
      have HROW := Lib.hid hrow
      have HLEN := Lib.hid hlen
      have HN2 := Lib.hid hnext
      clear hrow hlen hnext
      generalize (rowsW m G k).getD k undef = qv at hcell
      go_wp2_with (go_at_call 42; refine (toPicture_at _ _ q _ HLEN.out HROW.out).mono ?_; rintro e w2 ⟨g', rfl, hx2, hg2, hg3, hb2⟩; have HB2 := Lib.hid hb2; have hcell2 := hx2.cell hcell; have hfree2 := (hx2.frozen hcell).trans hfree; clear hb2)
      go_roundw
      case rel => exact ⟨k + 1, _, by omega, by go_num, HN2.out _ hx2 g' hg2 hg3 HB2.out⟩
      case measure => simp [intOf]; omega
    · have : k = m.length := by omega
      subst this
      go_wp2
      go_ret
      exact ⟨g, _, _, rfl, HS'.out.ext, HS'.out.own⟩
set_option maxHeartbeats 800000 in
theorem eqPictureS_ok (a b : Option Addr) (c c' : Nat) (A B : Nat → Option Addr) (C D : Nat → Nat) (m : List (List ByteArray)) (w : World) (hn : PcsBnd m) (ha : PcsAt w a A C m) (hb : PcsAt w b B D m) :
    Calls Try.prog 27 #[.slice a m.length c, .slice b m.length c'] w fun e w' => e = .returned (.bool true) ∧ w.Ext w' := by
  have hnn := hn.1
  have HA := Lib.hid ha
  have HB := Lib.hid hb
  have HR := Lib.hid hn.2
  clear ha hb hn
  go_enter Try.func27, Try.ntmps27
  go_wp2
  go_loopw [5] (fun i wr => ∃ k : Nat, k ≤ m.length ∧ i = .int .i64 k ∧ w.Ext wr) (fun i _ => m.length - (intOf i).toNat)
  case atStart => exact ⟨0, Nat.zero_le _, rfl, .refl _⟩
  case round =>
    obtain ⟨k, hk, rfl, hx⟩ := hrel
    by_cases hlt : k < m.length
    · obtain ⟨⟨b1, o1, rfl, hc1⟩, hr1⟩ := (HA.out.ext hx) k hlt
      obtain ⟨⟨b2, o2, rfl, hc2⟩, hr2⟩ := (HB.out.ext hx) k hlt
      have hlen := HR.out k
      have hk0 : (0 : Int) ≤ (k : Int) := by omega
      have hlt' : (k : Int) < (m.length : Int) := by omega
      generalize m.getD k [] = q at hc1 hc2 hr1 hr2 hlen
      have HR1 := Lib.hid hr1
      have HR2 := Lib.hid hr2
      have HL := Lib.hid hlen
      clear hr1 hr2 hlen
      go_wp2
      refine wp_region_over_lit (by kernel_rfl) (by kernel_rfl) ?_
      repeat (go_big_quiet_step ((go_at_call 46; exact Calls.over_of (eqPicture_ok _ _ _ _ q _ HL.out (RowOf.ext HR1.out ⟨_, rfl⟩) (RowOf.ext HR2.out ⟨_, rfl⟩)))))
      refine wpQuiet_nil ?_
      rintro _ ⟨x1, rfl⟩
      go_wp2
      go_roundw
      case rel => exact ⟨k + 1, by omega, by go_num, hx.over _⟩
      case measure => simp [intOf]; omega
    · have : k = m.length := by omega
      subst this
      go_wp2
      go_ret
      exact ⟨rfl, hx⟩
theorem OwnOf.blk {α : Type} {f : α → Value} {d : α} {lo hi b o : Nat} {w : World} {xs : List α} (h : OwnOf f d lo hi w (some ⟨b, o, none⟩) xs) : OwnOf f d b (b + 1) w (some ⟨b, o, none⟩) xs := fun i hi => by
  obtain ⟨b', o', h1, h2, h3, h4⟩ := h i hi
  cases h1
  exact ⟨_, _, rfl, Nat.le_refl _, Nat.lt_succ_self _, h4⟩
/-- Of which the first k pictures have been marked. -/
structure HalfP (lo hi : Nat) (w0 w : World) (a : Option Addr) (A : Nat → Option Addr) (C : Nat → Nat) (m : List (List ByteArray)) (k : Nat) : Prop where
  wrote : Wrote (fun b => lo ≤ b ∧ b < hi) w0 w
  outer : ∀ r, r < m.length → ∃ b o, a = some ⟨b, o, none⟩ ∧ lo ≤ b ∧ b < hi ∧ w.cell? ⟨b, o + r, none⟩ = some (.slice (A r) (m.getD r []).length (C r)) ∧
    ∀ s b' o', s < m.length → A s = some ⟨b', o', none⟩ → b' ≠ b
  rows : ∀ r, r < m.length → k ≤ r → OwnOf Value.string ByteArray.empty lo hi w (A r) (m.getD r [])
  apart : ∀ r s b o b' o', r < m.length → s < m.length → r ≠ s → A r = some ⟨b, o, none⟩ → A s = some ⟨b', o', none⟩ → b ≠ b'
theorem HalfP.next {lo hi : Nat} {w0 w w' : World} {a : Option Addr} {A : Nat → Option Addr} {C : Nat → Nat} {m : List (List ByteArray)} {k : Nat} (h : HalfP lo hi w0 w a A C m k) (hk : k < m.length)
    (hw : Wrote (fun b => lo ≤ b ∧ b < hi ∧ ∃ o, A k = some ⟨b, o, none⟩) w w') : HalfP lo hi w0 w' a A C m (k + 1) := by
  refine ⟨h.wrote.trans (hw.mono fun b _ hb => ⟨hb.1, hb.2.1⟩), fun r hr => ?_, fun r hr hkr => ?_, h.apart⟩
  · obtain ⟨b, o, h1, h2, h3, h4, h5⟩ := h.outer r hr
    exact ⟨b, o, h1, h2, h3, hw.cell h4 (fun ⟨_, _, o', ho'⟩ => h5 k b o' hk ho' rfl), h5⟩
  · have hne : ∀ b o, A r = some ⟨b, o, none⟩ → ¬ (lo ≤ b ∧ b < hi ∧ ∃ o, A k = some ⟨b, o, none⟩) := fun b o hb ⟨_, _, o', hb'⟩ => h.apart r k b o b o' hr hk (by omega) hb hb' rfl
    exact OwnOf.wroteAt (h.rows r hr (by omega)) hw hne
set_option maxHeartbeats 800000 in
theorem markPictureS_ok (a : Option Addr) (c : Nat) (A : Nat → Option Addr) (C : Nat → Nat) (m : List (List ByteArray)) (k0 lo hi : Nat) (w : World) (hn : PcsBnd m) (h1 : k0 ≤ 1048576 ∧ offP m m.length ≤ 1048576) (ha : OwnPcs lo hi w a A C m) :
    Calls Try.prog 28 #[.slice a m.length c, .int .i64 k0] w fun e w' => e = .returned (.int .i64 (k0 + offP m m.length : Nat)) ∧ Wrote (fun b => lo ≤ b ∧ b < hi) w w' ∧ True := by
  have hh : HalfP lo hi w w a A C m 0 := ⟨.refl _ _, ha.outer, fun r hr _ => ha.rows r hr, ha.apart⟩
  have HR := Lib.hid hn.2
  have HH := Lib.hid hh
  have H1 := Lib.hid h1
  have hm : m.length ≤ 1048576 := hn.1
  clear ha hh h1 hn
  go_enter Try.func28, Try.ntmps28
  go_wp2
  go_loopw [1, 5] (fun l i wr => ∃ k : Nat, k ≤ m.length ∧ i = .int .i64 k ∧ l = .int .i64 (k0 + offP m k : Nat) ∧ Hid (HalfP lo hi w wr a A C m k)) (fun _ i _ => m.length - (intOf i).toNat)
  case atStart => exact ⟨0, Nat.zero_le _, rfl, by simp [offP], HH.out⟩
  case round =>
    obtain ⟨k, hk, rfl, rfl, HW⟩ := hrel
    by_cases hlt : k < m.length
    · obtain ⟨b, o, rfl, h2, h3, hc, _⟩ := HW.out.outer k hlt
      have HROW := Lib.hid (HW.out.rows k hlt (Nat.le_refl _))
      have HLEN := Lib.hid (HR.out k)
      have HNEXT := Lib.hid (fun w' hw => HW.out.next (w' := w') hlt hw)
      have hoff : k0 + offP m k ≤ 2097152 := by have := offP_mono m k m.length hk; have := H1.out.1; have := H1.out.2; omega
      have HSUCC : Hid (k0 + offP m (k + 1) = k0 + offP m k + (m.getD k []).length) := by show _ = _; simp only [offP]; omega
      have hlt' : (k : Int) < (m.length : Int) := by omega
      have hk0 : (0 : Int) ≤ (k : Int) := by omega
      obtain ⟨z', hz'⟩ : ∃ z', z' = k0 + offP m (k + 1) := ⟨_, rfl⟩
      obtain ⟨z, hz⟩ : ∃ z, z = k0 + offP m k := ⟨_, rfl⟩
      have HMK : Hid (∀ c', Calls Try.prog 110 #[.slice (A k) (m.getD k []).length c', .int .i64 (z : Nat)] wr fun e w' => e = .returned (.int .i64 (z' : Nat)) ∧ Wrote (fun b => lo ≤ b ∧ b < hi ∧ ∃ o, A k = some ⟨b, o, none⟩) wr w') := fun c' => by
        have hrow := HROW.out
        rw [hz', HSUCC.out, hz]
        generalize m.getD k [] = q at *
        cases hA : A k with
        | none =>
          have hq : q = [] := by
            cases q with
            | nil => rfl
            | cons x l => obtain ⟨b, o, h, _⟩ := hrow 0 (by simp); rw [hA] at h; cases h
          subst hq
          refine (markStringS_any none c' [] (k0 + offP m k) 0 0 wr (by simp) hoff (OwnOf.nil _ _)).mono ?_
          rintro e w' ⟨rfl, hw, -⟩
          exact ⟨rfl, hw.mono fun b _ hb => by omega⟩
        | some ad =>
          rw [hA] at hrow
          by_cases hq : q = []
          · subst hq
            refine (markStringS_any (some ad) c' [] (k0 + offP m k) 0 0 wr (by simp) hoff (OwnOf.nil _ _)).mono ?_
            rintro e w' ⟨rfl, hw, -⟩
            exact ⟨rfl, hw.mono fun b _ hb => by omega⟩
          · have hq0 : 0 < q.length := List.length_pos_iff.2 hq
            obtain ⟨b1, o1, he1, g1, g2, -⟩ := hrow 0 hq0
            cases he1
            refine (markStringS_any _ c' q (k0 + offP m k) b1 (b1 + 1) wr HLEN.out.1 hoff (OwnOf.blk hrow)).mono ?_
            rintro e w' ⟨rfl, hw, -⟩
            exact ⟨rfl, hw.mono fun b' _ hb => by
              have : b' = b1 := by omega
              subst this
              exact ⟨g1, g2, o1, rfl⟩⟩
      have hzz : (0 : Int) ≤ (z : Int) := by omega
      have HZ' := Lib.hid hz'
      rw [← hz]
      clear hz hz' hoff HSUCC HROW
      generalize A k = ak at hc HMK HNEXT
      generalize (m.getD k []).length = q at hc HMK
      go_wp2_with fail
      refine (HMK.out _).mono ?_
      rintro e w2 ⟨rfl, hw2⟩
      have HW2 := Lib.hid (HNEXT.out _ hw2)
      clear hw2
      go_wp2
      go_roundw
      case rel => exact ⟨k + 1, by omega, by go_num, congrArg (fun n : Nat => Value.int .i64 (n : Int)) HZ'.out, HW2⟩
      case measure => simp [intOf]; omega
    · have : k = m.length := by omega
      subst this
      have HWR := Lib.hid HW.out.wrote
      clear HW HH
      go_wp2
      go_ret
      exact ⟨rfl, HWR.out, trivial⟩
end Go.Proofs.Ytahhnjoeaodcjaa
namespace Go.Proofs.Ytahhnjoeaodcjaa
open Go.ChangeShapes Go.WideShapes Go.RowKit Go.Deep Go.Joins
section
variable {H : Type} {enc : TypeId × Value → H} {P : Program} {w : World} {base : Nat} {spare : Nat → Bool} {held : Bool}
theorem open_pcs {t e s : TypeId} {f0 : Field} {fuel : Nat} {v0 : Value} {x : DataW H × List MemPlace} (ht : P.underlying t = some (.slice e)) (he : P.underlying e = some (.struct #[f0])) (hone : oneCellFields P #[f0] = true)
    (hC : P.cellsOf e = 1) (hf : P.underlying f0.type = some (.slice s)) (hs : P.underlying s = some .string) (hcs : P.cellsOf s = 1) (h : DataW.trod enc P w base (fun _ => true) held fuel t [v0] = some x) :
    ∃ (a : Option Addr) (c : Nat) (A : Nat → Option Addr) (C : Nat → Nat) (m : List (List ByteArray)), v0 = .slice a m.length c ∧ PcsAt w a A C m ∧ PcsLen m := by
  rcases open_slice1 ht hC h with ⟨h0, _⟩ | ⟨a, len, cap, m, n, V, D, Pl, h0, _, hl, hm, hmm, _, hx⟩
  · exact ⟨none, 0, fun _ => none, fun _ => 0, [], by simpa using h0, fun r hr => by simp at hr, by simp, fun r => ⟨by simp, fun r => by simp⟩⟩
  simp only [if_true] at hmm
  subst hmm
  have hv0 : v0 = .slice (some a) len m := by simpa using h0
  obtain ⟨o0, k0⟩ := hone_of hone 0 f0 rfl
  have each : ∀ r, r < m → ∃ y : Option Addr × Nat × List ByteArray, V r = .slice y.1 y.2.2.length y.2.1 ∧ RowS w y.1 y.2.2 ∧ PicLen y.2.2 := fun r hr => by
    obtain ⟨y0, n', _, _, hy⟩ := trod_struct1 he (hx r hr).2
    have hy' : DataW.trod enc P w base (fun _ => true) held n' f0.type [V r] = some y0 := by simpa [o0, k0] using hy
    obtain ⟨a', c', ss, h1, h2, h3, h4⟩ := open_texts hf hs hcs hy'
    exact ⟨(a', c', ss), h1, h2, h3, h4⟩
  obtain ⟨y, hy⟩ := choose_lt each
  have hlm : len ≤ m := hl
  have hg : ∀ r, r < len → ((List.range len).map fun r => (y r).2.2).getD r [] = (y r).2.2 := fun r hr => by simp [List.getD_eq_getElem?_getD, hr]
  refine ⟨some a, m, fun r => (y r).1, fun r => (y r).2.1, (List.range len).map fun r => (y r).2.2, by simpa using hv0, fun r hr => ?_, by simp; omega, fun r => ?_⟩
  · have hr' : r < len := by simpa using hr
    obtain ⟨q1, q2, q3⟩ := hy r (by omega)
    have hc := (hx r (by omega)).1
    obtain ⟨b, o, rfl⟩ := spot_none (hx 0 (by omega)).1
    rw [add_at] at hc
    rw [hg r hr']
    exact ⟨⟨b, o, rfl, by rw [hc, q1]⟩, q2⟩
  · by_cases hr : r < len
    · rw [hg r hr]; exact (hy r (by omega)).2.2
    · rw [getD_out (by simp; omega)]; exact ⟨by simp, fun r => by simp⟩
end
end Go.Proofs.Ytahhnjoeaodcjaa
