/- What the laws do with their arguments and results. -/
import Derived.Test.YthgkmaccbcpaeaaDoorMem
import Derived.Test.YthgkmaccbcpaeaaDoorProg
import Derived.Deep.QuietTactic
import Derived.BigQuiet
import Derived.Lib.SmallJoins
import Derived.Deep.Matrix
import Derived.Deep.Strs
import Derived.Deep.SlicePairs
namespace Go.Proofs.YthgkmaccbcpaeaaDoor
open Go.RowKit
theorem Tryd.infoI64 : (Tryd.prog.info? 2).map (fun i => (i.zero, i.size, i.bytes)) = some (some (.int .i64 0), 1, 8) := by kernel_rfl
theorem Tryd.infoRow : (Tryd.prog.info? 68).map (fun i => (i.zero, i.size, i.bytes)) = some (some (.slice none 0 0), 1, 24) := by kernel_rfl
def szS (left : Int) (n : Nat) : Int := if left - n < 0 then -1 else left - n
def szGo : Int → List Nat → Int
  | left, [] => left
  | left, n :: ns => if left - n < 0 then -1 else szGo (left - n) ns
def szSS (left : Int) (ns : List Nat) : Int := if left - ns.length < 0 then -1 else szGo (left - ns.length) ns
theorem szGo_neg (l : List Nat) : ∀ left : Int, left ≤ -1 → szGo left l ≤ -1 := by
  induction l with
  | nil => intro left h; exact h
  | cons n ns ih => intro left h; unfold szGo; rw [if_pos (by omega)]; omega
theorem szGo_le (l : List Nat) : ∀ left : Int, 0 ≤ szGo left l → szGo left l + (l.sum : Nat) ≤ left := by
  induction l with
  | nil => intro left _; simp [szGo]
  | cons n ns ih =>
    intro left h
    unfold szGo at h ⊢
    split at h
    · omega
    · rename_i hn
      rw [if_neg hn]
      have := ih _ h
      simp only [List.sum_cons] at *
      omega
set_option maxHeartbeats 400000 in
theorem szInt64S_any (a : Option Addr) (n c : Nat) (left : Int) (w : World) (hl : 0 ≤ left) (hl2 : left ≤ 1048576) (hn : n ≤ maxLen) :
    Calls Tryd.prog 68 #[.slice a n c, .int .i64 left] w fun e w' => e = .returned (.int .i64 (szS left n)) ∧ w.Ext w' := by
  unfold maxLen at hn
  unfold szS
  by_cases h : left - n < 0
  · rw [if_pos h]
    go_enter Tryd.func68, Tryd.ntmps68
    go_wp2
    go_ret
    exact ⟨rfl, .refl _⟩
  · rw [if_neg h]
    go_enter Tryd.func68, Tryd.ntmps68
    go_wp2
    go_ret
    exact ⟨rfl, .refl _⟩
theorem szGo_drop (left : Int) (l : List Nat) (k : Nat) (h : k < l.length) : szGo left (l.drop k) = if left - (l.getD k 0 : Nat) < 0 then -1 else szGo (left - (l.getD k 0 : Nat)) (l.drop (k + 1)) := by
  rw [List.drop_eq_getElem_cons h]
  simp [szGo, List.getD_eq_getElem?_getD, h]
set_option maxHeartbeats 400000 in
theorem szInt64SS_any (a : Option Addr) (c : Nat) (A : Nat → Option Addr) (C : Nat → Nat) (m : List (List Int)) (left : Int) (w : World) (hl : 0 ≤ left) (hl2 : left ≤ 1048576) (hn : m.length ≤ maxLen)
    (hm : MatAt w a A C m) (hr : ∀ r, (m.getD r []).length ≤ maxLen) :
    Calls Tryd.prog 31 #[.slice a m.length c, .int .i64 left] w fun e w' => e = .returned (.int .i64 (szSS left (m.map List.length))) ∧ w.Ext w' := by
  unfold maxLen at hn
  unfold szSS
  rw [List.length_map]
  by_cases h : left - m.length < 0
  · rw [if_pos h]
    go_enter Tryd.func31, Tryd.ntmps31
    go_wp2
    go_ret
    exact ⟨rfl, .refl _⟩
  · rw [if_neg h]
    go_enter Tryd.func31, Tryd.ntmps31
    go_wp2
    go_loopw [1, 5] (fun l i wr => ∃ (k : Nat) (z : Int), k ≤ m.length ∧ i = .int .i64 k ∧ l = .int .i64 z ∧ 0 ≤ z ∧ z ≤ 1048576 ∧ Hid (szGo (left - m.length) (m.map List.length) = szGo z ((m.map List.length).drop k)) ∧ w.Ext wr) (fun _ i _ => m.length - (intOf i).toNat)
    case atStart => exact ⟨0, _, Nat.zero_le _, rfl, rfl, by omega, by omega, rfl, .refl _⟩
    case round =>
      obtain ⟨k, z, hk, rfl, rfl, hz0, hz1, HS, hx⟩ := hrel
      by_cases hlt : k < m.length
      · obtain ⟨⟨b, o, rfl, hc⟩, _⟩ := (hm.ext hx) k hlt
        have hrk := hr k
        have hd := szGo_drop z (m.map List.length) k (by simpa using hlt)
        rw [show (m.map List.length).getD k 0 = (m.getD k []).length by simp [List.getD_eq_getElem?_getD, hlt]] at hd
        generalize (m.getD k []).length = q at *
        have HD := Lib.hid hd
        clear hd
        clear hr hm
        have hlt' : (k : Int) < (m.length : Int) := by omega
        by_cases hneg : z - (q : Nat) < 0
        · go_wp2_with (go_at_call 68; refine (szInt64S_any _ _ _ _ _ hz0 hz1 hrk).mono ?_; rintro e w' ⟨rfl, x1, rfl⟩; rw [szS, if_pos hneg])
          go_ret
          refine ⟨ret_int ?_, ?_⟩
          · rw [HS.out, HD.out, if_pos hneg]
          repeat (first | exact World.Ext.refl _ | exact ⟨_, rfl⟩ | assumption | refine World.Ext.over ?_ _ | refine World.Ext.drewN ?_ _ | refine World.Ext.drew ?_ | refine World.Ext.alloc ?_ _ | refine World.Ext.setCell ?_ (by simp) _)
        · go_wp2_with (go_at_call 68; refine (szInt64S_any _ _ _ _ _ hz0 hz1 hrk).mono ?_; rintro e w' ⟨rfl, x1, rfl⟩; rw [szS, if_neg hneg])
          go_roundw
          case rel => exact ⟨k + 1, z - (q : Nat), by omega, by go_num, rfl, by omega, by omega, (by show _ = _; rw [HS.out, HD.out, if_neg (by omega)]), hx.over _⟩
          case measure => simp [intOf]; omega
      · have : k = m.length := by omega
        subst this
        go_wp2
        go_ret
        refine ⟨ret_int ?_, hx⟩
        rw [HS.out, List.drop_of_length_le (by simp)]
        rfl
set_option maxHeartbeats 400000 in
theorem toInt64S_any (a : Option Addr) (c : Nat) (zs : List Int) (w : World) (hn : zs.length ≤ 1048576) (hr : RowI w a zs) :
    Calls Tryd.prog 71 #[.slice a zs.length c] w fun e w' => ∃ g, e = .returned (.slice (some ⟨g, 0, none⟩) zs.length zs.length) ∧ w.Ext w' ∧ w.heap.size ≤ g ∧ BlkOf (Value.int .i64) w' g 2 zs := by
  obtain ⟨i0, hi, hz0, hz1, hz2⟩ := info_parts Tryd.infoI64
  have HN := Lib.hid hn
  clear hn
  have c1 : i0.bytes * zs.length ≤ 281474976710656 := by rw [hz2]; have := HN.out; omega
  have c2 : zs.length ≤ maxLen := by unfold maxLen; have := HN.out; omega
  have hm : zs.length ≤ 9223372036854775807 := by have := HN.out; omega
  have C1 := Lib.hid c1
  have C2 := Lib.hid c2
  clear c1 c2
  go_enter Tryd.func71, Tryd.ntmps71
  go_wp2_with (at_make; refine wpList_make_full _ rfl _ _ 68 rfl 0 2 i0 (.int .i64 0) 1 Tryd.underlying68 hi hz0 hz1 .i64 .i64 _ _ zs.length rfl rfl rfl rfl C1.out C2.out (Nat.zero_le _) (fun w1 hown hgrow => ?_))
  have hb0 := blk_of_made (f := Value.int .i64) 0 rfl hown
  rw [← copied_zero] at hb0
  have hx0 := World.Ext.made hgrow
  clear hown hgrow
  obtain ⟨g, hg⟩ : ∃ g, g = w.heap.size := ⟨_, rfl⟩
  rw [← hg] at hb0 ⊢
  have HG := Lib.hid hg
  clear hg
  go_loopw [4] (fun i wr => ∃ k : Nat, k ≤ zs.length ∧ i = .int .i64 k ∧ w.Ext wr ∧ BlkOf (Value.int .i64) wr g 2 (copied 0 zs k)) (fun i _ => zs.length - (intOf i).toNat)
  case atStart => exact ⟨0, Nat.zero_le _, rfl, hx0, hb0⟩
  case round =>
    obtain ⟨k, hk, rfl, hx, hb⟩ := hrel
    have hle := copied_len 0 zs k hk
    by_cases hlt : k < zs.length
    · obtain ⟨b, o, rfl, hc⟩ := (RowOf.ext hr hx) k hlt
      have hcell := hb.cell 0 (by rw [hle]; exact hlt)
      have hfree := hb.free k
      have hb1 := hb.set k (zs.getD k 0)
      rw [copied_set 0 zs k hlt] at hb1
      have hx1 := hx.setCell (p := ⟨g, k, none⟩) (by rw [HG.out]; exact Nat.le_refl _) (.int .i64 (zs.getD k 0))
      have HB := Lib.hid hb1
      have HX := Lib.hid hx1
      clear hb hb1 hx1 hle hr
      generalize zs.getD k 0 = z at hc HB HX ⊢
      go_wp2
      go_roundw
      case rel => exact ⟨k + 1, by omega, by go_num, HX.out, HB.out⟩
      case measure => simp [intOf]; omega
    · have : k = zs.length := by omega
      subst this
      rw [copied_all] at hb
      go_wp2
      go_ret
      exact ⟨g, rfl, hx, by rw [HG.out]; exact Nat.le_refl _, hb⟩
/-- The rows' values, the rows lying in blocks 'G'. -/
def rowV (m : List (List Int)) (G : Nat → Nat) (r : Nat) : Value := .slice (some ⟨G r, 0, none⟩) (m.getD r []).length (m.getD r []).length
def rowsV (m : List (List Int)) (G : Nat → Nat) (k : Nat) : List Value := (List.range k).map (rowV m G) ++ List.replicate (m.length - k) (.slice none 0 0)
theorem rowsV_len (m : List (List Int)) (G : Nat → Nat) (k : Nat) (h : k ≤ m.length) : (rowsV m G k).length = m.length := by simp [rowsV]; omega
theorem rowsV_zero (m : List (List Int)) (G : Nat → Nat) : rowsV m G 0 = List.replicate m.length (.slice none 0 0) := by simp [rowsV]
theorem rowsV_set (m : List (List Int)) (G : Nat → Nat) (k g : Nat) (h : k < m.length) :
    (rowsV m G k).set k (.slice (some ⟨g, 0, none⟩) (m.getD k []).length (m.getD k []).length) = rowsV m (fun r => if r = k then g else G r) (k + 1) := by
  unfold rowsV
  rw [List.set_append_right _ _ (by simp)]
  obtain ⟨n, hn⟩ : ∃ n, m.length - k = n + 1 := ⟨m.length - k - 1, by omega⟩
  rw [show m.length - (k + 1) = n by omega, hn, List.replicate_succ]
  rw [show k - (List.map (rowV m G) (List.range k)).length = 0 by simp, List.set_cons_zero]
  rw [List.range_succ, List.map_append, List.append_assoc]
  congr 1
  · apply List.map_congr_left
    intro r hr
    have : r ≠ k := by have := List.mem_range.1 hr; omega
    simp [rowV, this]
  · simp [rowV]
theorem rowsV_at (m : List (List Int)) (G : Nat → Nat) (r : Nat) (h : r < m.length) : (rowsV m G m.length).getD r undef = rowV m G r := by
  simp [rowsV, List.getD_eq_getElem?_getD, h]
/-- What lies there after k rows. -/
structure SomeRows (w0 wr : World) (g : Nat) (m : List (List Int)) (k : Nat) (G : Nat → Nat) : Prop where
  ext : w0.Ext wr
  blk : BlkOf id wr g 68 (rowsV m G k)
  lo : w0.heap.size ≤ g
  rows : ∀ r, r < k → BlkOf (Value.int .i64) wr (G r) 2 (m.getD r []) ∧ g < G r
  up : ∀ r s, r < s → s < k → G r < G s
theorem SomeRows.next {w0 wr w2 : World} {g : Nat} {m : List (List Int)} {k : Nat} {G : Nat → Nat} (h : SomeRows w0 wr g m k G) (hk : k < m.length) (hx : wr.Ext w2) (g' : Nat) (hg' : wr.heap.size ≤ g')
    (hb : BlkOf (Value.int .i64) w2 g' 2 (m.getD k [])) :
    SomeRows w0 (w2.setCell ⟨g, k, none⟩ (.slice (some ⟨g', 0, none⟩) (m.getD k []).length (m.getD k []).length)) g m (k + 1) (fun r => if r = k then g' else G r) := by
  have hlt := h.blk.lt
  refine ⟨(h.ext.trans hx).setCell h.lo _, ?_, h.lo, fun r hr => ?_, fun r s hrs hs => ?_⟩
  · rw [← rowsV_set m G k g' hk]
    exact (h.blk.ext hx).set k (.slice (some ⟨g', 0, none⟩) (m.getD k []).length (m.getD k []).length)
  · by_cases e : r = k
    · subst e
      simp only [if_true]
      exact ⟨hb.setCell_other (by simp; omega) _, by omega⟩
    · simp only [e, if_false]
      obtain ⟨h1, h2⟩ := h.rows r (by omega)
      exact ⟨(h1.ext hx).setCell_other (by simp; omega) _, h2⟩
  · by_cases e : s = k
    · have e' : r ≠ k := by omega
      simp only [e, e', if_true, if_false]
      have := (h.rows r (by omega)).1.lt
      omega
    · have e' : r ≠ k := by omega
      simp only [e, e', if_false]
      exact h.up r s hrs (by omega)
theorem SomeRows.own {w0 wr : World} {g : Nat} {m : List (List Int)} {G : Nat → Nat} (h : SomeRows w0 wr g m m.length G) :
    OwnMat w0.heap.size wr.heap.size wr (some ⟨g, 0, none⟩) (fun r => some ⟨G r, 0, none⟩) (fun r => (m.getD r []).length) m := by
  refine ⟨fun r hr => ⟨g, 0, rfl, h.lo, h.blk.lt, ?_, ?_⟩, fun r hr => ?_, ?_⟩
  · rw [Nat.zero_add, h.blk.cell undef (by rw [rowsV_len _ _ _ (Nat.le_refl _)]; exact hr), rowsV_at m G r hr]
    rfl
  · intro s b' o' hs hb
    simp only [Option.some.injEq, Addr.mk.injEq, and_true] at hb
    have := (h.rows s hs).2
    omega
  · obtain ⟨h1, h2⟩ := h.rows r hr
    exact h1.own 0 (by have := h.lo; omega) (Nat.le_refl _)
  · intro r s b o b' o' hr hs hne hb hb'
    simp only [Option.some.injEq, Addr.mk.injEq, and_true] at hb hb'
    rcases Nat.lt_or_gt_of_ne hne with h1 | h1
    · have := h.up r s h1 hs; omega
    · have := h.up s r h1 hr; omega
set_option maxHeartbeats 400000 in
theorem toInt64SS_any (a : Option Addr) (c : Nat) (A : Nat → Option Addr) (C : Nat → Nat) (m : List (List Int)) (w : World) (hn : m.length ≤ 1048576) (hrow : ∀ r, (m.getD r []).length ≤ 1048576) (hm : MatAt w a A C m) :
    Calls Tryd.prog 34 #[.slice a m.length c] w fun e w' => ∃ g G, e = .returned (.slice (some ⟨g, 0, none⟩) m.length m.length) ∧ SomeRows w w' g m m.length G := by
  obtain ⟨i0, hi, hz0, hz1, hz2⟩ := info_parts Tryd.infoRow
  have HN := Lib.hid hn
  have HR := Lib.hid hrow
  have HM := Lib.hid hm
  clear hn hrow hm
  have c1 : i0.bytes * m.length ≤ 281474976710656 := by rw [hz2]; have := HN.out; omega
  have c2 : m.length ≤ maxLen := by unfold maxLen; have := HN.out; omega
  have hm : m.length ≤ 9223372036854775807 := by have := HN.out; omega
  have C1 := Lib.hid c1
  have C2 := Lib.hid c2
  clear c1 c2
  go_enter Tryd.func34, Tryd.ntmps34
  go_wp2_with (at_make; refine wpList_make_full _ rfl _ _ 22 rfl 0 68 i0 (.slice none 0 0) 1 Tryd.underlying22 hi hz0 hz1 .i64 .i64 _ _ m.length rfl rfl rfl rfl C1.out C2.out (Nat.zero_le _) (fun w1 hown hgrow => ?_))
  have hb0 := blk_of_made (f := id) (.slice none 0 0) rfl hown
  rw [← rowsV_zero m (fun _ => 0)] at hb0
  have hx0 := World.Ext.made hgrow
  clear hown hgrow
  obtain ⟨g, hg⟩ : ∃ g, g = w.heap.size := ⟨_, rfl⟩
  rw [← hg] at hb0 ⊢
  have hS : SomeRows w w1 g m 0 (fun _ => 0) := ⟨hx0, hb0, by omega, fun r hr => by omega, fun r s _ hs => by omega⟩
  clear hg hb0 hx0
  have HS := Lib.hid hS
  clear hS
  go_loopw [4] (fun i wr => ∃ (k : Nat) (G : Nat → Nat), k ≤ m.length ∧ i = .int .i64 k ∧ Hid (SomeRows w wr g m k G)) (fun i _ => m.length - (intOf i).toNat)
  case atStart => exact ⟨0, _, Nat.zero_le _, rfl, HS⟩
  case round =>
    obtain ⟨k, G, hk, rfl, HS'⟩ := hrel
    by_cases hlt : k < m.length
    · obtain ⟨⟨b, o, rfl, hc⟩, hrow⟩ := (HM.out.ext HS'.out.ext) k hlt
      have hcell := HS'.out.blk.cell undef (by rw [rowsV_len _ _ _ hk]; exact hlt)
      have hfree := HS'.out.blk.free k
      have hlen := HR.out k
      have hnext := fun w2 hx2 g' hg2 hb2 => HS'.out.next (w2 := w2) hlt hx2 g' hg2 hb2
      have hlt' : (k : Int) < (m.length : Int) := by omega
      generalize m.getD k [] = q at hc hrow hlen hnext
      have HROW := Lib.hid hrow
      have HLEN := Lib.hid hlen
      have HN2 := Lib.hid hnext
      clear hrow hlen hnext
      generalize (rowsV m G k).getD k undef = qv at hcell
      go_wp2_with (go_at_call 71; refine (toInt64S_any _ _ q _ HLEN.out HROW.out).mono ?_; rintro e w2 ⟨g', rfl, hx2, hg2, hb2⟩; have HB2 := Lib.hid hb2; have hcell2 := hx2.cell hcell; have hfree2 := (hx2.frozen hcell).trans hfree; clear hb2)
      go_roundw
      case rel => exact ⟨k + 1, _, by omega, by go_num, HN2.out _ hx2 g' hg2 HB2.out⟩
      case measure => simp [intOf]; omega
    · have : k = m.length := by omega
      subst this
      go_wp2
      go_ret
      exact ⟨g, G, rfl, HS'.out⟩
set_option maxHeartbeats 400000 in
theorem eqInt64S_any (a b : Option Addr) (c c' : Nat) (zs : List Int) (w : World) (hn : zs.length ≤ maxLen) (ha : RowI w a zs) (hb : RowI w b zs) :
    Calls Tryd.prog 77 #[.slice a zs.length c, .slice b zs.length c'] w fun e w' => e = .returned (.bool true) ∧ w.Ext w' := by
  unfold maxLen at hn
  have HA := Lib.hid ha
  have HB := Lib.hid hb
  clear ha hb
  go_enter Tryd.func77, Tryd.ntmps77
  go_wp2
  go_loopw [5] (fun i wr => ∃ k : Nat, k ≤ zs.length ∧ i = .int .i64 k ∧ w.Ext wr) (fun i _ => zs.length - (intOf i).toNat)
  case atStart => exact ⟨0, Nat.zero_le _, rfl, .refl _⟩
  case round =>
    obtain ⟨k, hk, rfl, hx⟩ := hrel
    by_cases hlt : k < zs.length
    · obtain ⟨b1, o1, rfl, hc1⟩ := (RowOf.ext HA.out hx) k hlt
      obtain ⟨b2, o2, rfl, hc2⟩ := (RowOf.ext HB.out hx) k hlt
      have hk0 : (0 : Int) ≤ (k : Int) := by omega
      have hlt' : (k : Int) < (zs.length : Int) := by omega
      generalize zs.getD k 0 = z at hc1 hc2
      go_wp2
      refine wp_region_over_lit (by kernel_rfl) (by kernel_rfl) ?_
      repeat (go_big_quiet_step (fail))
      refine wpQuiet_nil ?_
      rintro _ ⟨x1, rfl⟩
      go_wp2
      go_roundw
      case rel => exact ⟨k + 1, by omega, by go_num, hx.over _⟩
      case measure => simp [intOf]; omega
    · have : k = zs.length := by omega
      subst this
      go_wp2
      go_ret
      exact ⟨rfl, hx⟩
set_option maxHeartbeats 400000 in
theorem eqInt64SS_any (a b : Option Addr) (c c' : Nat) (A B : Nat → Option Addr) (C D : Nat → Nat) (m : List (List Int)) (w : World) (hn : m.length ≤ maxLen) (hr : ∀ r, (m.getD r []).length ≤ maxLen) (ha : MatAt w a A C m) (hb : MatAt w b B D m) :
    Calls Tryd.prog 38 #[.slice a m.length c, .slice b m.length c'] w fun e w' => e = .returned (.bool true) ∧ w.Ext w' := by
  unfold maxLen at hn
  have HA := Lib.hid ha
  have HB := Lib.hid hb
  have HR := Lib.hid hr
  clear ha hb hr
  go_enter Tryd.func38, Tryd.ntmps38
  go_wp2
  go_loopw [5] (fun i wr => ∃ k : Nat, k ≤ m.length ∧ i = .int .i64 k ∧ w.Ext wr) (fun i _ => m.length - (intOf i).toNat)
  case atStart => exact ⟨0, Nat.zero_le _, rfl, .refl _⟩
  case round =>
    obtain ⟨k, hk, rfl, hx⟩ := hrel
    by_cases hlt : k < m.length
    · obtain ⟨⟨b1, o1, rfl, hc1⟩, hr1⟩ := (HA.out.ext hx) k hlt
      obtain ⟨⟨b2, o2, rfl, hc2⟩, hr2⟩ := (HB.out.ext hx) k hlt
      have hlen := HR.out k
      have hk0 : (0 : Int) ≤ (k : Int) := by omega
      have hlt' : (k : Int) < (m.length : Int) := by omega
      generalize m.getD k [] = q at hc1 hc2 hr1 hr2 hlen
      have HR1 := Lib.hid hr1
      have HR2 := Lib.hid hr2
      have HL := Lib.hid hlen
      clear hr1 hr2 hlen
      go_wp2
      refine wp_region_over_lit (by kernel_rfl) (by kernel_rfl) ?_
      repeat (go_big_quiet_step ((go_at_call 77; exact Calls.over_of (eqInt64S_any _ _ _ _ q _ HL.out (RowOf.ext HR1.out ⟨_, rfl⟩) (RowOf.ext HR2.out ⟨_, rfl⟩)))))
      refine wpQuiet_nil ?_
      rintro _ ⟨x1, rfl⟩
      go_wp2
      go_roundw
      case rel => exact ⟨k + 1, by omega, by go_num, hx.over _⟩
      case measure => simp [intOf]; omega
    · have : k = m.length := by omega
      subst this
      go_wp2
      go_ret
      exact ⟨rfl, hx⟩
theorem marked_at (k0 : Int) (zs : List Int) (k : Nat) (h : k < zs.length) : (marksI k0 zs.length).getD k 0 = k0 + k := marksI_at _ _ _ h
set_option maxHeartbeats 400000 in
theorem markInt64S_any (a : Option Addr) (c : Nat) (zs : List Int) (k0 : Int) (lo hi : Nat) (w : World) (hn : zs.length ≤ 1048576) (h0 : 0 ≤ k0) (h1 : k0 ≤ 4194304) (ha : OwnOf (Value.int .i64) 0 lo hi w a zs) :
    Calls Tryd.prog 96 #[.slice a zs.length c, .int .i64 k0] w fun e w' => e = .returned (.int .i64 (k0 + zs.length)) ∧ Wrote (fun b => lo ≤ b ∧ b < hi ∧ ∃ o, a = some ⟨b, o, none⟩) w w' ∧ OwnOf (Value.int .i64) 0 lo hi w' a (marksI k0 zs.length) := by
  have hh := HalfOf.start (mk := fun i => k0 + (i : Nat)) ha
  have HN := Lib.hid hn
  have hm : zs.length ≤ 4611686018427387904 := by omega
  clear ha hn
  generalize zs.length = n at *
  have HH := Lib.hid hh
  clear hh
  go_enter Tryd.func96, Tryd.ntmps96
  go_wp2
  go_loopw [1, 5] (fun l i wr => ∃ k : Nat, k ≤ n ∧ i = .int .i64 k ∧ l = .int .i64 (k0 + k) ∧ Hid (Wrote (fun b => lo ≤ b ∧ b < hi ∧ ∃ o, a = some ⟨b, o, none⟩) w wr ∧ HalfOf (Value.int .i64) (fun i => k0 + (i : Nat)) lo hi wr a n k)) (fun _ i _ => n - (intOf i).toNat)
  case atStart => exact ⟨0, Nat.zero_le _, rfl, by simp, .refl _ _, HH.out⟩
  case round =>
    obtain ⟨k, hk, rfl, rfl, HW⟩ := hrel
    by_cases hlt : k < n
    · obtain ⟨b, o, v, rfl, h2, h3, h4, _, h6⟩ := HW.out.2 k hlt
      go_wp2
      go_roundw
      case rel => exact ⟨k + 1, by omega, by go_num, by go_num, HW.out.1.setCell ⟨h2, h3, o, rfl⟩ _, (HW.out.2.next hlt :)⟩
      case measure => simp [intOf]; omega
    · have : k = n := by omega
      subst this
      go_wp2
      go_ret
      exact ⟨rfl, HW.out.1, by have := HW.out.2.done 0; simpa [marksI] using this⟩
def offM (m : List (List Int)) : Nat → Nat
  | 0 => 0
  | r + 1 => offM m r + (m.getD r []).length
theorem offM_mono (m : List (List Int)) (r s : Nat) (h : r ≤ s) : offM m r ≤ offM m s := by
  induction s with
  | zero => rw [Nat.le_zero.1 h]; exact Nat.le_refl _
  | succ s ih =>
    by_cases e : r = s + 1
    · rw [e]; exact Nat.le_refl _
    · have := ih (by omega); show offM m r ≤ offM m s + _; omega
theorem offM_cons (x : List Int) (m : List (List Int)) (r : Nat) : offM (x :: m) (r + 1) = x.length + offM m r := by
  induction r with
  | zero => simp [offM]
  | succ r ih => rw [offM, ih]; simp [offM]; omega
theorem offM_all (m : List (List Int)) : offM m m.length = (m.map List.length).sum := by
  induction m with
  | nil => rfl
  | cons x m ih => rw [List.length_cons, offM_cons, ih]; simp
def marksM (k0 : Int) (m : List (List Int)) : List (List Int) := (List.range m.length).map fun r => marksI (k0 + offM m r) (m.getD r []).length
theorem marksM_len (k0 : Int) (m : List (List Int)) : (marksM k0 m).length = m.length := by simp [marksM]
theorem marksM_at (k0 : Int) (m : List (List Int)) (r : Nat) (h : r < m.length) : (marksM k0 m).getD r [] = marksI (k0 + offM m r) (m.getD r []).length := by
  simp [marksM, List.getD_eq_getElem?_getD, h]
/-- Of which the first k rows are marks. -/
structure HalfM (k0 : Int) (lo hi : Nat) (w0 w : World) (a : Option Addr) (A : Nat → Option Addr) (C : Nat → Nat) (m : List (List Int)) (k : Nat) : Prop where
  wrote : Wrote (fun b => lo ≤ b ∧ b < hi) w0 w
  outer : ∀ r, r < m.length → ∃ b o, a = some ⟨b, o, none⟩ ∧ lo ≤ b ∧ b < hi ∧ w.cell? ⟨b, o + r, none⟩ = some (.slice (A r) (m.getD r []).length (C r)) ∧
    ∀ s b' o', s < m.length → A s = some ⟨b', o', none⟩ → b' ≠ b
  rows : ∀ r, r < m.length → if r < k then OwnOf (Value.int .i64) 0 lo hi w (A r) (marksI (k0 + offM m r) (m.getD r []).length) else OwnOf (Value.int .i64) 0 lo hi w (A r) (m.getD r [])
  apart : ∀ r s b o b' o', r < m.length → s < m.length → r ≠ s → A r = some ⟨b, o, none⟩ → A s = some ⟨b', o', none⟩ → b ≠ b'
theorem OwnOf.wroteAt {α : Type} {f : α → Value} {d : α} {lo hi : Nat} {w w' : World} {a : Option Addr} {xs : List α} {S : Nat → Prop} (h : OwnOf f d lo hi w a xs) (hx : Wrote S w w') (hs : ∀ b o, a = some ⟨b, o, none⟩ → ¬ S b) : OwnOf f d lo hi w' a xs :=
  fun i hi => let ⟨b, o, h1, h2, h2', h3, h4⟩ := h i hi; ⟨b, o, h1, h2, h2', hx.cell h3 (hs b o h1), by rw [hx.frozen h3 (hs b o h1)]; exact h4⟩
theorem HalfM.next {k0 : Int} {lo hi : Nat} {w0 w w' : World} {a : Option Addr} {A : Nat → Option Addr} {C : Nat → Nat} {m : List (List Int)} {k : Nat} (h : HalfM k0 lo hi w0 w a A C m k) (hk : k < m.length)
    (hw : Wrote (fun b => lo ≤ b ∧ b < hi ∧ ∃ o, A k = some ⟨b, o, none⟩) w w') (ho : OwnOf (Value.int .i64) 0 lo hi w' (A k) (marksI (k0 + offM m k) (m.getD k []).length)) : HalfM k0 lo hi w0 w' a A C m (k + 1) := by
  refine ⟨h.wrote.trans (hw.mono fun b _ hb => ⟨hb.1, hb.2.1⟩), fun r hr => ?_, fun r hr => ?_, h.apart⟩
  · obtain ⟨b, o, h1, h2, h3, h4, h5⟩ := h.outer r hr
    exact ⟨b, o, h1, h2, h3, hw.cell h4 (fun ⟨_, _, o', ho'⟩ => h5 k b o' hk ho' rfl), h5⟩
  · have hr0 := h.rows r hr
    by_cases e : r = k
    · subst e
      rw [if_pos (by omega)]
      exact ho
    · have hne : ∀ b o, A r = some ⟨b, o, none⟩ → ¬ (lo ≤ b ∧ b < hi ∧ ∃ o, A k = some ⟨b, o, none⟩) := fun b o hb ⟨_, _, o', hb'⟩ => h.apart r k b o b o' hr hk e hb hb' rfl
      by_cases e2 : r < k
      · rw [if_pos e2] at hr0
        rw [if_pos (by omega)]
        exact OwnOf.wroteAt hr0 hw hne
      · rw [if_neg e2] at hr0
        rw [if_neg (by omega)]
        exact OwnOf.wroteAt hr0 hw hne
theorem HalfM.done {k0 : Int} {lo hi : Nat} {w0 w : World} {a : Option Addr} {A : Nat → Option Addr} {C : Nat → Nat} {m : List (List Int)} (h : HalfM k0 lo hi w0 w a A C m m.length) : OwnMat lo hi w a A C (marksM k0 m) := by
  refine ⟨fun r hr => ?_, fun r hr => ?_, fun r s b o b' o' hr hs => ?_⟩
  · rw [marksM_len] at hr
    obtain ⟨b, o, h1, h2, h3, h4, h5⟩ := h.outer r hr
    refine ⟨b, o, h1, h2, h3, by rw [marksM_at _ _ _ hr, marksI_len]; exact h4, fun s b' o' hs => ?_⟩
    rw [marksM_len] at hs
    exact h5 s b' o' hs
  · rw [marksM_len] at hr
    rw [marksM_at _ _ _ hr]
    have := h.rows r hr
    rwa [if_pos hr] at this
  · rw [marksM_len] at hr hs
    exact h.apart r s b o b' o' hr hs
set_option maxHeartbeats 400000 in
theorem markInt64SS_any (a : Option Addr) (c : Nat) (A : Nat → Option Addr) (C : Nat → Nat) (m : List (List Int)) (k0 : Int) (lo hi : Nat) (w : World) (hn : m.length ≤ 1048576) (hr : ∀ r, (m.getD r []).length ≤ 1048576)
    (h0 : 0 ≤ k0) (h1 : k0 + offM m m.length ≤ 4194304) (ha : OwnMat lo hi w a A C m) :
    Calls Tryd.prog 66 #[.slice a m.length c, .int .i64 k0] w fun e w' => e = .returned (.int .i64 (k0 + offM m m.length)) ∧ Wrote (fun b => lo ≤ b ∧ b < hi) w w' ∧ OwnMat lo hi w' a A C (marksM k0 m) := by
  have hh : HalfM k0 lo hi w w a A C m 0 := ⟨.refl _ _, ha.outer, fun r hr => by rw [if_neg (by omega)]; exact ha.rows r hr, ha.apart⟩
  have HR := Lib.hid hr
  have HH := Lib.hid hh
  have H1 := Lib.hid h1
  have hm : m.length ≤ 4611686018427387904 := by omega
  clear ha hr hh h1 hn
  go_enter Tryd.func66, Tryd.ntmps66
  go_wp2
  go_loopw [1, 5] (fun l i wr => ∃ k : Nat, k ≤ m.length ∧ i = .int .i64 k ∧ l = .int .i64 (k0 + offM m k) ∧ Hid (HalfM k0 lo hi w wr a A C m k)) (fun _ i _ => m.length - (intOf i).toNat)
  case atStart => exact ⟨0, Nat.zero_le _, rfl, by simp [offM], HH.out⟩
  case round =>
    obtain ⟨k, hk, rfl, rfl, HW⟩ := hrel
    by_cases hlt : k < m.length
    · obtain ⟨b, o, rfl, h2, h3, hc, _⟩ := HW.out.outer k hlt
      have hrow := HW.out.rows k hlt
      rw [if_neg (by omega)] at hrow
      have hlen := HR.out k
      have hnext := fun w' hw ho => HW.out.next (w' := w') hlt hw ho
      have hoff : k0 + offM m k ≤ 4194304 := by have := offM_mono m k m.length hk; have := H1.out; omega
      have hoff0 : 0 ≤ k0 + offM m k := by omega
      have hsucc : offM m (k + 1) = offM m k + (m.getD k []).length := rfl
      generalize hq : m.getD k [] = q at hc hrow hlen hnext hsucc
      obtain ⟨z, hz⟩ : ∃ z : Int, z = k0 + offM m k := ⟨_, rfl⟩
      rw [← hz] at hoff hoff0 hnext ⊢
      have HZ := Lib.hid hz
      clear hz
      have HROW := Lib.hid hrow
      have HLEN := Lib.hid hlen
      have HNEXT := Lib.hid hnext
      have HSUCC := Lib.hid hsucc
      have HOFF := Lib.hid hoff
      have HOFF0 := Lib.hid hoff0
      clear hrow hlen hnext hsucc hq hoff hoff0
      go_wp2_with (go_at_call 96; refine (markInt64S_any _ _ q _ lo hi _ HLEN.out HOFF0.out HOFF.out HROW.out).mono ?_; rintro e w2 ⟨rfl, hw2, ho2⟩; have HW2 := Lib.hid hw2; have HO2 := Lib.hid ho2; clear hw2 ho2)
      go_roundw
      case rel => exact ⟨k + 1, by omega, by go_num, (congrArg (Value.int .i64) (by rw [HZ.out, HSUCC.out]; omega)), HNEXT.out _ HW2.out HO2.out⟩
      case measure => simp [intOf]; omega
    · have : k = m.length := by omega
      subst this
      go_wp2
      go_ret
      exact ⟨rfl, HW.out.wrote, HW.out.done⟩
set_option maxHeartbeats 400000 in
theorem heldInt64S_any (a : Option Addr) (n c : Nat) (k0 : Int) (w : World) (hn : n ≤ 1048576) (h0 : 0 ≤ k0) (h1 : k0 ≤ 4194304) (ha : RowI w a (marksI k0 n)) :
    Calls Tryd.prog 97 #[.slice a n c, .int .i64 k0] w fun e w' => e = .returned (.int .i64 (k0 + n)) ∧ w.Ext w' := by
  have HA := Lib.hid ha
  have hm : n ≤ 4611686018427387904 := by omega
  clear ha hn
  go_enter Tryd.func97, Tryd.ntmps97
  go_wp2
  go_loopw [1, 5] (fun l i wr => ∃ k : Nat, k ≤ n ∧ i = .int .i64 k ∧ l = .int .i64 (k0 + k) ∧ w.Ext wr) (fun _ i _ => n - (intOf i).toNat)
  case atStart => exact ⟨0, Nat.zero_le _, rfl, by simp, .refl _⟩
  case round =>
    obtain ⟨k, hk, rfl, rfl, hx⟩ := hrel
    by_cases hlt : k < n
    · obtain ⟨b, o, rfl, hc⟩ := (RowOf.ext HA.out hx) k (by rw [marksI_len]; exact hlt)
      rw [marksI_at _ _ _ hlt] at hc
      have hlt' : (k : Int) < (n : Int) := by omega
      go_wp2
      go_roundw
      case rel => exact ⟨k + 1, by omega, by go_num, by go_num, hx⟩
      case measure => simp [intOf]; omega
    · have : k = n := by omega
      subst this
      go_wp2
      go_ret
      exact ⟨rfl, hx⟩
set_option maxHeartbeats 400000 in
theorem heldInt64SS_any (a : Option Addr) (c : Nat) (A : Nat → Option Addr) (C : Nat → Nat) (m : List (List Int)) (k0 : Int) (w : World) (hn : m.length ≤ 1048576) (hr : ∀ r, (m.getD r []).length ≤ 1048576)
    (h0 : 0 ≤ k0) (h1 : k0 + offM m m.length ≤ 4194304) (ha : MatAt w a A C (marksM k0 m)) :
    Calls Tryd.prog 67 #[.slice a m.length c, .int .i64 k0] w fun e w' => e = .returned (.int .i64 (k0 + offM m m.length)) ∧ w.Ext w' := by
  have HA := Lib.hid ha
  have HR := Lib.hid hr
  have H1 := Lib.hid h1
  have hm : m.length ≤ 4611686018427387904 := by omega
  clear ha hr h1 hn
  go_enter Tryd.func67, Tryd.ntmps67
  go_wp2
  go_loopw [1, 5] (fun l i wr => ∃ k : Nat, k ≤ m.length ∧ i = .int .i64 k ∧ l = .int .i64 (k0 + offM m k) ∧ w.Ext wr) (fun _ i _ => m.length - (intOf i).toNat)
  case atStart => exact ⟨0, Nat.zero_le _, rfl, by simp [offM], .refl _⟩
  case round =>
    obtain ⟨k, hk, rfl, rfl, hx⟩ := hrel
    by_cases hlt : k < m.length
    · obtain ⟨⟨b, o, rfl, hc⟩, hrow⟩ := (HA.out.ext hx) k (by rw [marksM_len]; exact hlt)
      rw [marksM_at _ _ _ hlt] at hc hrow
      rw [marksI_len] at hc
      have hlen := HR.out k
      have hoff : k0 + offM m k ≤ 4194304 := by have := offM_mono m k m.length hk; have := H1.out; omega
      have hoff0 : 0 ≤ k0 + offM m k := by omega
      have hsucc : offM m (k + 1) = offM m k + (m.getD k []).length := rfl
      have hlt' : (k : Int) < (m.length : Int) := by omega
      have hall : k0 + offM m (k + 1) ≤ 4194304 := by have := offM_mono m (k + 1) m.length hlt; have := H1.out; omega
      generalize (m.getD k []).length = q at *
      obtain ⟨z, hz⟩ : ∃ z : Int, z = k0 + offM m k := ⟨_, rfl⟩
      rw [← hz] at hoff hoff0 hrow ⊢
      have hnn : (z + q < 0) = False := by simp; omega
      have hnd : decide (z + (q : Int) < 0) = false := by simp; omega
      have HROW := Lib.hid hrow
      have HLEN := Lib.hid hlen
      have HSUCC := Lib.hid hsucc
      have HALL := Lib.hid hall
      have HZ := Lib.hid hz
      clear hrow hsucc hz hall
      go_wp2_with (go_at_call 97; refine (heldInt64S_any _ q _ _ _ HLEN.out hoff0 hoff HROW.out).mono ?_; rintro e w2 ⟨rfl, x1, rfl⟩)
      go_roundw
      case rel => exact ⟨k + 1, by omega, by go_num, (congrArg (Value.int .i64) (by rw [HZ.out, HSUCC.out]; omega)), hx.over _⟩
      case measure => simp [intOf]; omega
    · have : k = m.length := by omega
      subst this
      go_wp2
      go_ret
      exact ⟨rfl, hx⟩
end Go.Proofs.YthgkmaccbcpaeaaDoor
namespace Go.Proofs.YthgkmaccbcpaeaaDoor
open Go.RowKit
/-- The digits of a number, ahead of others. -/
def digs : Nat → Nat → List UInt8 → List UInt8
  | 0, _, acc => acc
  | f + 1, k, acc => if k = 0 then acc else digs f (k / 10) (UInt8.ofNat (48 + k % 10) :: acc)
def markT (k : Nat) : ByteArray := if k = 0 then ⟨#[109, 48]⟩ else ⟨(109 :: digs k k []).toArray⟩
theorem digs_len : ∀ (f k : Nat) (acc : List UInt8), (digs f k acc).length ≤ f + acc.length
  | 0, _, acc => by simp [digs]
  | f + 1, k, acc => by
    unfold digs
    split
    · omega
    · have := digs_len f (k / 10) (UInt8.ofNat (48 + k % 10) :: acc)
      rw [List.length_cons] at this
      omega
def marksS (k : Nat) (n : Nat) : List ByteArray := (List.range n).map fun i => markT (k + i)
theorem marksS_len (k n : Nat) : (marksS k n).length = n := by simp [marksS]
theorem marksS_at (k n i : Nat) (h : i < n) : (marksS k n).getD i ByteArray.empty = markT (k + i) := by simp [marksS, List.getD_eq_getElem?_getD, h]
theorem markT_size (k : Nat) : (markT k).size ≤ k + 2 := by
  unfold markT
  split
  · show 2 ≤ _; omega
  · have := digs_len k k []
    simp [ByteArray.size] at *
    omega
end Go.Proofs.YthgkmaccbcpaeaaDoor
namespace Go.Proofs.YthgkmaccbcpaeaaDoor
open Go.RowKit
set_option maxHeartbeats 400000 in
theorem szGrey_any (a : Option Addr) (c : Nat) (A : Nat → Option Addr) (C : Nat → Nat) (m : List (List Int)) (left : Int) (w : World) (hl : 0 ≤ left) (hl2 : left ≤ 1048576) (hn : m.length ≤ maxLen)
    (hm : MatAt w a A C m) (hr : ∀ r, (m.getD r []).length ≤ maxLen) :
    Calls Tryd.prog 6 #[.agg #[.slice a m.length c], .int .i64 left] w fun e w' => e = .returned (.int .i64 (if szSS left (m.map List.length) < 0 then -1 else szSS left (m.map List.length))) ∧ w.Ext w' := by
  have HM := Lib.hid hm
  have HR := Lib.hid hr
  have HN := Lib.hid hn
  clear hm hr hn
  obtain ⟨z, hz⟩ : ∃ z, z = szSS left (m.map List.length) := ⟨_, rfl⟩
  rw [← hz]
  have HZ := Lib.hid hz
  clear hz
  go_enter Tryd.func6, Tryd.ntmps6
  go_wp2_with (go_at_call 31; refine (szInt64SS_any _ _ A C m _ _ hl hl2 HN.out (HM.out.ext ((World.Ext.refl _).alloc _)) HR.out).mono ?_; rintro e w' ⟨rfl, x1, rfl⟩; rw [← HZ.out])
  all_goals
    go_ret
    refine ⟨ret_int rfl, ?_⟩
    repeat (first | exact World.Ext.refl _ | exact ⟨_, rfl⟩ | assumption | refine World.Ext.over ?_ _ | refine World.Ext.drewN ?_ _ | refine World.Ext.drew ?_ | refine World.Ext.alloc ?_ _ | refine World.Ext.setCell ?_ (by simp) _)
set_option maxHeartbeats 400000 in
theorem toGrey_any (a : Option Addr) (c : Nat) (A : Nat → Option Addr) (C : Nat → Nat) (m : List (List Int)) (w : World) (hn : m.length ≤ 1048576) (hrow : ∀ r, (m.getD r []).length ≤ 1048576) (hm : MatAt w a A C m) :
    Calls Tryd.prog 8 #[.agg #[.slice a m.length c]] w fun e w' => ∃ g A', e = .returned (.agg #[.slice (some ⟨g, 0, none⟩) m.length m.length]) ∧ w.Ext w' ∧ OwnMat w.heap.size w'.heap.size w' (some ⟨g, 0, none⟩) A' (fun r => (m.getD r []).length) m := by
  have HM := Lib.hid hm
  have HR := Lib.hid hrow
  have HN := Lib.hid hn
  clear hm hrow hn
  go_enter Tryd.func8, Tryd.ntmps8
  go_wp2_with fail
  refine (toInt64SS_any _ _ A C m _ HN.out HR.out (HM.out.ext (by repeat (first | exact World.Ext.refl _ | exact ⟨_, rfl⟩ | assumption | refine World.Ext.over ?_ _ | refine World.Ext.drewN ?_ _ | refine World.Ext.drew ?_ | refine World.Ext.alloc ?_ _ | refine World.Ext.setCell ?_ (by simp) _)))).mono ?_
  rintro e w1 ⟨g, G, rfl, hS⟩
  have hx := hS.ext
  have HO := Lib.hid hS.own
  clear hS
  have q1 := hx.cell (a := ⟨w.heap.size + 1 + 1, 0, none⟩) (v := .slice none 0 0) (by simp [go_sem])
  have q2 := hx.cell (a := ⟨w.heap.size + 1, 0, none⟩) (v := .slice none 0 0) (by simp [go_sem])
  have q3 : w1.frozen? ⟨w.heap.size + 1 + 1, 0, none⟩ = false := hx.free (v := .slice none 0 0) (by simp [go_sem]) (by simp [go_sem])
  have q4 : w1.frozen? ⟨w.heap.size + 1, 0, none⟩ = false := hx.free (v := .slice none 0 0) (by simp [go_sem]) (by simp [go_sem])
  go_wp2
  have hs := hx.size
  simp at hs
  refine bodyPost_ret (v := .agg #[.slice (some ⟨g, 0, none⟩) m.length m.length]) (by simp [results, Tryd.results8, go_sem, *]) rfl ⟨g, fun r => some ⟨G r, 0, none⟩, rfl, ?_, ?_⟩
  · refine World.Ext.setCell (World.Ext.setCell (World.Ext.trans (by repeat (first | exact World.Ext.refl _ | exact ⟨_, rfl⟩ | assumption | refine World.Ext.over ?_ _ | refine World.Ext.drewN ?_ _ | refine World.Ext.drew ?_ | refine World.Ext.alloc ?_ _ | refine World.Ext.setCell ?_ (by simp) _)) hx) (by simp; omega) _) (by simp) _
  · refine (HO.out.wrote (S := fun b => b < w.heap.size + 3) (((Wrote.refl _ _).setCell (by simp) _).setCell (by simp) _) (fun k h1 h2 => ?_)).mono ?_ ?_
    · simp at h1; simp; omega
    · simp; omega
    · simp
set_option maxHeartbeats 400000 in
theorem eqGrey_any (a b : Option Addr) (c c' : Nat) (A B : Nat → Option Addr) (C D : Nat → Nat) (m : List (List Int)) (w : World) (hn : m.length ≤ maxLen) (hr : ∀ r, (m.getD r []).length ≤ maxLen) (ha : MatAt w a A C m) (hb : MatAt w b B D m) :
    Calls Tryd.prog 10 #[.agg #[.slice a m.length c], .agg #[.slice b m.length c']] w fun e w' => e = .returned (.bool true) ∧ w.Ext w' := by
  have HA := Lib.hid ha
  have HB := Lib.hid hb
  have HR := Lib.hid hr
  have HN := Lib.hid hn
  clear ha hb hr hn
  go_enter Tryd.func10, Tryd.ntmps10
  go_wp2_with (go_at_call 38; refine (eqInt64SS_any _ _ _ _ A B C D m _ HN.out HR.out (HA.out.ext (by repeat (first | exact World.Ext.refl _ | exact ⟨_, rfl⟩ | assumption | refine World.Ext.over ?_ _ | refine World.Ext.drewN ?_ _ | refine World.Ext.drew ?_ | refine World.Ext.alloc ?_ _ | refine World.Ext.setCell ?_ (by simp) _))) (HB.out.ext (by repeat (first | exact World.Ext.refl _ | exact ⟨_, rfl⟩ | assumption | refine World.Ext.over ?_ _ | refine World.Ext.drewN ?_ _ | refine World.Ext.drew ?_ | refine World.Ext.alloc ?_ _ | refine World.Ext.setCell ?_ (by simp) _)))).mono ?_; rintro e w' ⟨rfl, x1, rfl⟩)
  go_ret
  refine ⟨rfl, ?_⟩
  repeat (first | exact World.Ext.refl _ | exact ⟨_, rfl⟩ | assumption | refine World.Ext.over ?_ _ | refine World.Ext.drewN ?_ _ | refine World.Ext.drew ?_ | refine World.Ext.alloc ?_ _ | refine World.Ext.setCell ?_ (by simp) _)
set_option maxHeartbeats 400000 in
theorem markGrey_any (a : Option Addr) (c : Nat) (A : Nat → Option Addr) (C : Nat → Nat) (m : List (List Int)) (k0 : Int) (lo hi : Nat) (w : World) (hn : m.length ≤ 1048576) (hr : ∀ r, (m.getD r []).length ≤ 1048576)
    (h0 : 0 ≤ k0) (h1 : k0 + offM m m.length ≤ 4194304) (ha : OwnMat lo hi w a A C m) :
    Calls Tryd.prog 29 #[.agg #[.slice a m.length c], .int .i64 k0] w fun e w' => e = .returned (.int .i64 (k0 + offM m m.length)) ∧ Wrote (fun b => lo ≤ b ∧ b < hi) w w' ∧ OwnMat lo hi w' a A C (marksM k0 m) := by
  have HA := Lib.hid ha
  have HR := Lib.hid hr
  have HN := Lib.hid hn
  have H1 := Lib.hid h1
  have H0 := Lib.hid h0
  clear ha hr hn h1 h0
  go_enter Tryd.func29, Tryd.ntmps29
  go_wp2_with fail
  refine (markInt64SS_any _ _ A C m _ lo hi _ HN.out HR.out H0.out H1.out (HA.out.ext (by repeat (first | exact World.Ext.refl _ | exact ⟨_, rfl⟩ | assumption | refine World.Ext.over ?_ _ | refine World.Ext.drewN ?_ _ | refine World.Ext.drew ?_ | refine World.Ext.alloc ?_ _ | refine World.Ext.setCell ?_ (by simp) _)))).mono ?_
  rintro e w1 ⟨rfl, hw1, ho1⟩
  have HW := Lib.hid hw1
  have HO := Lib.hid ho1
  clear hw1 ho1
  go_wp2
  go_ret
  exact ⟨rfl, (World.Ext.wrote (by repeat (first | exact World.Ext.refl _ | exact ⟨_, rfl⟩ | assumption | refine World.Ext.over ?_ _ | refine World.Ext.drewN ?_ _ | refine World.Ext.drew ?_ | refine World.Ext.alloc ?_ _ | refine World.Ext.setCell ?_ (by simp) _)) _).trans HW.out, HO.out⟩
set_option maxHeartbeats 400000 in
theorem heldGrey_any (a : Option Addr) (c : Nat) (A : Nat → Option Addr) (C : Nat → Nat) (m : List (List Int)) (k0 : Int) (w : World) (hn : m.length ≤ 1048576) (hr : ∀ r, (m.getD r []).length ≤ 1048576)
    (h0 : 0 ≤ k0) (h1 : k0 + offM m m.length ≤ 4194304) (ha : MatAt w a A C (marksM k0 m)) :
    Calls Tryd.prog 30 #[.agg #[.slice a m.length c], .int .i64 k0] w fun e w' => e = .returned (.int .i64 (k0 + offM m m.length)) ∧ w.Ext w' := by
  have HA := Lib.hid ha
  have HR := Lib.hid hr
  have HN := Lib.hid hn
  have H1 := Lib.hid h1
  have hnn : decide (k0 + (offM m m.length : Int) < 0) = false := by simp; omega
  have H0 := Lib.hid h0
  clear ha hr hn h1 h0
  generalize hz : (k0 + (offM m m.length : Int)) = z at *
  have HZ := Lib.hid hz
  clear hz
  go_enter Tryd.func30, Tryd.ntmps30
  go_wp2_with (go_at_call 67; refine (heldInt64SS_any _ _ A C m _ _ HN.out HR.out H0.out (by rw [HZ.out]; exact H1.out) (HA.out.ext (by repeat (first | exact World.Ext.refl _ | exact ⟨_, rfl⟩ | assumption | refine World.Ext.over ?_ _ | refine World.Ext.drewN ?_ _ | refine World.Ext.drew ?_ | refine World.Ext.alloc ?_ _ | refine World.Ext.setCell ?_ (by simp) _)))).mono ?_; rintro e w' ⟨rfl, x1, rfl⟩; rw [HZ.out])
  go_ret
  refine ⟨rfl, ?_⟩
  repeat (first | exact World.Ext.refl _ | exact ⟨_, rfl⟩ | assumption | refine World.Ext.over ?_ _ | refine World.Ext.drewN ?_ _ | refine World.Ext.drew ?_ | refine World.Ext.alloc ?_ _ | refine World.Ext.setCell ?_ (by simp) _)
end Go.Proofs.YthgkmaccbcpaeaaDoor
namespace Go.Proofs.YthgkmaccbcpaeaaDoor
open Go.RowKit
def PicLen (s : List ByteArray) : Prop := s.length ≤ maxLen ∧ ∀ r, (s.getD r ByteArray.empty).size ≤ maxLen
def PicBnd (s : List ByteArray) : Prop := s.length ≤ 1048576 ∧ ∀ r, (s.getD r ByteArray.empty).size ≤ 1048576
def MatLen (m : List (List Int)) : Prop := m.length ≤ maxLen ∧ ∀ r, (m.getD r []).length ≤ maxLen
def MatBnd (m : List (List Int)) : Prop := m.length ≤ 1048576 ∧ ∀ r, (m.getD r []).length ≤ 1048576
def IntsLen (s : List Int) : Prop := s.length ≤ maxLen
def IntsBnd (s : List Int) : Prop := s.length ≤ 1048576
section
variable {w0 w w' : World} {a b c d f g : Addr} {v1 v2 v3 v4 v5 v6 : Value}
theorem keepR1 (h : w.cell? a = some v1 ∧ w0.Ext w) (hx : w.Ext w') : w'.cell? a = some v1 ∧ w0.Ext w' := ⟨hx.cell h.1, h.2.trans hx⟩
theorem keepR2 (h : w.cell? a = some v1 ∧ w.cell? b = some v2 ∧ w0.Ext w) (hx : w.Ext w') : w'.cell? a = some v1 ∧ w'.cell? b = some v2 ∧ w0.Ext w' := ⟨hx.cell h.1, hx.cell h.2.1, h.2.2.trans hx⟩
theorem keepR3 (h : w.cell? a = some v1 ∧ w.cell? b = some v2 ∧ w.cell? c = some v3 ∧ w0.Ext w) (hx : w.Ext w') : w'.cell? a = some v1 ∧ w'.cell? b = some v2 ∧ w'.cell? c = some v3 ∧ w0.Ext w' :=
  ⟨hx.cell h.1, hx.cell h.2.1, hx.cell h.2.2.1, h.2.2.2.trans hx⟩
theorem keepR4 (h : w.cell? a = some v1 ∧ w.cell? b = some v2 ∧ w.cell? c = some v3 ∧ w.cell? d = some v4 ∧ w0.Ext w) (hx : w.Ext w') : w'.cell? a = some v1 ∧ w'.cell? b = some v2 ∧ w'.cell? c = some v3 ∧ w'.cell? d = some v4 ∧ w0.Ext w' :=
  ⟨hx.cell h.1, hx.cell h.2.1, hx.cell h.2.2.1, hx.cell h.2.2.2.1, h.2.2.2.2.trans hx⟩
end
theorem RowS.ext {w w' : World} {a : Option Addr} {s : List ByteArray} (h : RowS w a s) (hx : w.Ext w') : RowS w' a s := RowOf.ext h hx
theorem RowI.ext {w w' : World} {a : Option Addr} {s : List Int} (h : RowI w a s) (hx : w.Ext w') : RowI w' a s := RowOf.ext h hx
theorem newCell1 {w w' : World} {v : Value} {T : TypeId} (h : (w.alloc (.cells #[v] T)).Ext w') : w'.cell? ⟨w.heap.size, 0, none⟩ = some v ∧ w'.frozen? ⟨w.heap.size, 0, none⟩ = false :=
  ⟨h.cell (by simp [go_sem]), h.free (v := v) (by simp [go_sem]) (by simp [go_sem])⟩
theorem newCellD {w w' : World} {v : Value} {T : TypeId} (h : (w.alloc (.cells #[v] T)).drew.Ext w') : w'.cell? ⟨w.heap.size, 0, none⟩ = some v ∧ w'.frozen? ⟨w.heap.size, 0, none⟩ = false := newCell1 (((World.Ext.refl _).drew).trans h)
theorem oldCell1 {w w' : World} {a : Addr} {v : Value} (h : w.cell? a = some v ∧ w.frozen? a = false) (hx : w.Ext w') : w'.cell? a = some v ∧ w'.frozen? a = false := ⟨hx.cell h.1, hx.free h.1 h.2⟩
theorem le_sum_of_mem : ∀ (l : List Nat) (x : Nat), x ∈ l → x ≤ l.sum
  | [], x, h => by cases h
  | y :: l, x, h => by
    rw [List.sum_cons]
    rcases List.mem_cons.1 h with rfl | h
    · omega
    · have := le_sum_of_mem l x h
      omega
theorem szSS_le {left z : Int} {ns : List Nat} (h : szSS left ns = z) (h0 : 0 ≤ z) : z + ns.length + (ns.sum : Nat) ≤ left ∧ ∀ n ∈ ns, (n : Int) ≤ left := by
  unfold szSS at h
  split at h
  · omega
  · have h1 := szGo_le ns (left - ns.length) (by rw [h]; exact h0)
    rw [h] at h1
    refine ⟨by omega, fun n hn => ?_⟩
    have := le_sum_of_mem ns n hn
    omega
theorem szSS_hi {left : Int} (hl : 0 ≤ left) : ∀ ns : List Nat, szSS left ns ≤ left := fun ns => by
  by_cases h : 0 ≤ szSS left ns
  · have := (szSS_le rfl h).1
    omega
  · omega
theorem szGo_drop2 (left : Int) (l : List Nat) (k : Nat) (h : k < l.length) : szGo left (l.drop k) = if left - (l.getD k 0 : Nat) < 0 then -1 else szGo (left - (l.getD k 0 : Nat)) (l.drop (k + 1)) := by
  rw [List.drop_eq_getElem_cons h]
  simp [szGo, List.getD_eq_getElem?_getD, h]
theorem Tryd.infoStrM : (Tryd.prog.info? 9).map (fun i => (i.zero, i.size, i.bytes)) = some (some (.string ByteArray.empty), 1, 16) := by kernel_rfl
end Go.Proofs.YthgkmaccbcpaeaaDoor
namespace Go.Proofs.YthgkmaccbcpaeaaDoor
open Go.RowKit
/-- Pairs as the integers in their order. -/
def flatP : List (Int × Int) → List Int
  | [] => []
  | p :: ps => p.1 :: p.2 :: flatP ps
theorem flatP_len : ∀ ps : List (Int × Int), (flatP ps).length = 2 * ps.length
  | [] => rfl
  | p :: ps => by simp [flatP, flatP_len ps]; omega
theorem flatP_fst : ∀ (ps : List (Int × Int)) (i : Nat), (flatP ps).getD (2 * i) 0 = (ps.getD i (0, 0)).1
  | [], i => by simp [flatP]
  | p :: ps, 0 => by simp [flatP]
  | p :: ps, i + 1 => by
    have := flatP_fst ps i
    rw [show 2 * (i + 1) = 2 * i + 1 + 1 by omega]
    simpa [flatP] using this
theorem flatP_snd : ∀ (ps : List (Int × Int)) (i : Nat), (flatP ps).getD (2 * i + 1) 0 = (ps.getD i (0, 0)).2
  | [], i => by simp [flatP]
  | p :: ps, 0 => by simp [flatP]
  | p :: ps, i + 1 => by
    have := flatP_snd ps i
    rw [show 2 * (i + 1) + 1 = 2 * i + 1 + 1 + 1 by omega]
    simpa [flatP] using this
def RowP (w : World) (a : Option Addr) (ps : List (Int × Int)) : Prop := RowOf (Value.int .i64) 0 w a (flatP ps)
def OwnP (lo hi : Nat) (w : World) (a : Option Addr) (ps : List (Int × Int)) : Prop := OwnOf (Value.int .i64) 0 lo hi w a (flatP ps)
def PairLen (s : List (Int × Int)) : Prop := s.length ≤ maxLen
def PairBnd (s : List (Int × Int)) : Prop := s.length ≤ 1048576
section
variable {w w' : World} {a : Option Addr} {ps : List (Int × Int)} {lo hi lo' hi' : Nat}
theorem RowP.ext (h : RowP w a ps) (hx : w.Ext w') : RowP w' a ps := RowOf.ext h hx
theorem OwnP.ext (h : OwnP lo hi w a ps) (hx : w.Ext w') : OwnP lo hi w' a ps := OwnOf.ext h hx
theorem OwnP.row (h : OwnP lo hi w a ps) : RowP w a ps := OwnOf.row h
theorem OwnP.mono (h : OwnP lo hi w a ps) (hl : lo' ≤ lo) (hh : hi ≤ hi') : OwnP lo' hi' w a ps := OwnOf.mono h hl hh
theorem OwnP.wrote {S : Nat → Prop} (h : OwnP lo hi w a ps) (hx : Wrote S w w') (hs : ∀ k, lo ≤ k → k < hi → ¬ S k) : OwnP lo hi w' a ps := OwnOf.wrote h hx hs
theorem RowP.at (h : RowP w a ps) {i : Nat} (hi : i < ps.length) : ∃ b o, a = some ⟨b, o, none⟩ ∧ w.cell? ⟨b, o + i * 2, none⟩ = some (.int .i64 (ps.getD i (0, 0)).1) ∧ w.cell? ⟨b, o + i * 2 + 1, none⟩ = some (.int .i64 (ps.getD i (0, 0)).2) := by
  have hl := flatP_len ps
  obtain ⟨b, o, e, h1⟩ := h (2 * i) (by omega)
  obtain ⟨b', o', e', h2⟩ := h (2 * i + 1) (by omega)
  rw [e] at e'
  cases e'
  rw [flatP_fst] at h1
  rw [flatP_snd] at h2
  exact ⟨b, o, e, by rw [Nat.mul_comm i 2]; exact h1, by rw [Nat.mul_comm i 2, Nat.add_assoc]; exact h2⟩
end
theorem Tryd.infoSpotM : (Tryd.prog.info? 48).map (fun i => (i.zero, i.size, i.bytes)) = some (some (.agg #[.int .i64 0, .int .i64 0]), 2, 16) := by kernel_rfl
theorem blkP_of_made {w : World} {base g n : Nat} {e : TypeId} {z : Value} (hz : z.cells = #[.int .i64 0, .int .i64 0])
    (h : w.ownsRow base e 2 (.slice (some ⟨g, 0, none⟩) n n) n (madeCells z.cells (n * 2)).toList) : BlkOf (Value.int .i64) w g e (List.replicate (2 * n) 0) := by
  obtain ⟨h1, h2⟩ := h
  rcases h2 with ⟨h2, _⟩ | ⟨g', cap, cur, hv, _, hh, _, _, hs, ht⟩
  · cases h2
  · simp only [Value.slice.injEq, Option.some.injEq, Addr.mk.injEq, and_true] at hv
    obtain ⟨rfl, -, rfl⟩ := hv
    unfold BlkOf
    rw [hh]
    have e1 : cur.toList.take (n * 2) = cur.toList := List.take_of_length_le (by simp [hs])
    rw [e1] at ht
    have e2 : cur = (cur.toList).toArray := by simp
    rw [e2, ht, hz]
    congr 2
    apply Array.ext
    · simp [size_madeCells, Nat.mul_comm]
    · intro i h3 h4
      simp only [madeCells, Array.toArray_toList, Array.getElem_map, Array.getElem_range]
      have : i % 2 = 0 ∨ i % 2 = 1 := by omega
      rcases this with h5 | h5 <;> simp [h5]
end Go.Proofs.YthgkmaccbcpaeaaDoor
namespace Go.Proofs.YthgkmaccbcpaeaaDoor
open Go.ChangeShapes Go.WideShapes Go.RowKit Go.Deep Go.Joins
section
variable {H : Type} {enc : TypeId × Value → H} {P : Program} {w : World} {base : Nat} {spare : Nat → Bool} {held : Bool}
theorem spot_none {a : Addr} {v : Value} (h : w.cell? (a.add 0) = some v) : ∃ b o, a = ⟨b, o, none⟩ := by
  obtain ⟨b, o, spot⟩ := a
  have hspot : spot = none := by simpa [Addr.add] using World.cell?_spot h
  subst hspot
  exact ⟨b, o, rfl⟩
theorem add_at (b o i : Nat) : (⟨b, o, none⟩ : Addr).add i = ⟨b, o + i, none⟩ := by
  unfold Addr.add
  by_cases h : i = 0
  · simp [h]
  · simp [h]
theorem open_agg1 {r : Reach} {b0 : Nat} {t : TypeId} {f0 : Field} {v : Value} {d : DataW H} {p : List MemPlace} (hs : P.underlying t = some (.struct #[f0])) (hone : oneCellFields P #[f0] = true) (hC : P.cellsOf t = 1)
    (hv : Value.okWide P w r b0 t v) (h : DataW.Trod enc P w base spare held t v d p) :
    ∃ (v0 : Value) (y0 : DataW H × List MemPlace) (n : Nat), v = .agg #[v0] ∧ DataW.trod enc P w base spare held n f0.type [v0] = some y0 := by
  obtain ⟨cs, rfl, hsz⟩ := okWide_struct hs hv
  obtain ⟨c0, rfl⟩ : ∃ c0, cs = #[c0] := by
    have : cs.size = 1 := hsz.trans hC
    rcases cs with ⟨l⟩
    match l, this with
    | [c0], _ => exact ⟨c0, rfl⟩
  obtain ⟨fuel, hf⟩ := h
  obtain ⟨y0, n, _, _, h0⟩ := trod_struct1 hs hf
  obtain ⟨o0, k0⟩ := hone_of hone 0 f0 rfl
  exact ⟨c0, y0, n, rfl, by simpa [Value.cells, o0, k0] using h0⟩
theorem open_rows {t e q : TypeId} {fuel : Nat} {v0 : Value} {x : DataW H × List MemPlace} (ht : P.underlying t = some (.slice e)) (he : P.underlying e = some (.slice q)) (hq : P.underlying q = some (.int .i64))
    (ce : P.cellsOf e = 1) (cq : P.cellsOf q = 1) (h : DataW.trod enc P w base (fun _ => true) held fuel t [v0] = some x) :
    ∃ (a : Option Addr) (c : Nat) (A : Nat → Option Addr) (C : Nat → Nat) (m : List (List Int)), v0 = .slice a m.length c ∧ MatAt w a A C m ∧ m.length ≤ maxLen ∧ ∀ r, (m.getD r []).length ≤ maxLen := by
  rcases open_int_rows ht he hq ce cq h with ⟨h0, _⟩ | ⟨a, len, cap, A, L, C, Z, h0, _, hl, hm, _, hx⟩
  · exact ⟨none, 0, fun _ => none, fun _ => 0, [], by simpa using h0, fun r hr => by simp at hr, by simp, fun r => by simp⟩
  have hv0 : v0 = .slice (some a) len cap := by simpa using h0
  refine ⟨some a, cap, A, C, (List.range len).map fun r => (Z r).take (L r), by simpa using hv0, fun r hr => ?_, by simp; omega, fun r => ?_⟩
  · have hr' : r < len := by simpa using hr
    obtain ⟨q1, q2, q3, q4, _, q6, q7⟩ := hx r (by omega)
    have hg : ((List.range len).map fun r => (Z r).take (L r)).getD r [] = (Z r).take (L r) := by simp [List.getD_eq_getElem?_getD, hr']
    have hgl : ((Z r).take (L r)).length = L r := by simp; omega
    rw [hg]
    obtain ⟨b, o, rfl⟩ := spot_none (hx 0 (by omega)).1
    rw [add_at] at q1
    refine ⟨⟨b, o, rfl, by rw [hgl]; exact q1⟩, fun i hi => ?_⟩
    rw [hgl] at hi
    cases hA : A r with
    | none => have := q6 hA; omega
    | some a' =>
      obtain ⟨_, h7⟩ := q7 a' hA
      obtain ⟨b', o', rfl⟩ := spot_none (h7 0 (by omega))
      refine ⟨b', o', rfl, ?_⟩
      have := h7 i (by omega)
      rw [add_at] at this
      rw [this]
      have e : ((Z r).take (L r)).getD i 0 = (Z r).getD i 0 := by simp [List.getD_eq_getElem?_getD, hi]
      rw [e]
  · by_cases hr : r < len
    · obtain ⟨_, q2, q3, q4, _⟩ := hx r (by omega)
      simp [List.getD_eq_getElem?_getD, hr]; omega
    · simp [List.getD_eq_getElem?_getD, hr]
theorem open_texts {t e : TypeId} {fuel : Nat} {v0 : Value} {x : DataW H × List MemPlace} (ht : P.underlying t = some (.slice e)) (he : P.underlying e = some .string) (hc : P.cellsOf e = 1)
    (h : DataW.trod enc P w base (fun _ => true) held fuel t [v0] = some x) :
    ∃ (a : Option Addr) (c : Nat) (ss : List ByteArray), v0 = .slice a ss.length c ∧ RowS w a ss ∧ ss.length ≤ maxLen ∧ ∀ r, (ss.getD r ByteArray.empty).size ≤ maxLen := by
  rcases open_strs ht he hc h with ⟨h0, _⟩ | ⟨a, len, cap, m, S, h0, _, hl, hm, hmm, _, hx⟩
  · exact ⟨none, 0, [], by simpa using h0, fun r hr => by simp at hr, by simp, fun r => by simp⟩
  simp only [if_true] at hmm
  subst hmm
  have hv0 : v0 = .slice (some a) len m := by simpa using h0
  refine ⟨some a, m, (List.range len).map S, by simpa using hv0, fun r hr => ?_, by simp; omega, fun r => ?_⟩
  · have hr' : r < len := by simpa using hr
    obtain ⟨q1, q2⟩ := hx r (by omega)
    obtain ⟨b, o, rfl⟩ := spot_none (hx 0 (by omega)).1
    rw [add_at] at q1
    exact ⟨b, o, rfl, by rw [q1]; simp [List.getD_eq_getElem?_getD, hr']⟩
  · by_cases hr : r < len
    · have := (hx r (by omega)).2
      simpa [List.getD_eq_getElem?_getD, hr] using this
    · simp [List.getD_eq_getElem?_getD, hr]
end
end Go.Proofs.YthgkmaccbcpaeaaDoor
namespace Go.Proofs.YthgkmaccbcpaeaaDoor
open Go.ChangeShapes Go.WideShapes Go.RowKit Go.Deep Go.Joins
section
variable {H : Type} {enc : TypeId × Value → H} {P : Program} {w : World} {base : Nat} {spare : Nat → Bool} {held : Bool}
def intOfV : Value → Int
  | .int _ z => z
  | _ => 0
theorem RowP.of_at {w : World} {a : Option Addr} {ps : List (Int × Int)} (h : ∀ i, i < ps.length → ∃ b o, a = some ⟨b, o, none⟩ ∧ w.cell? ⟨b, o + i * 2, none⟩ = some (.int .i64 (ps.getD i (0, 0)).1) ∧ w.cell? ⟨b, o + i * 2 + 1, none⟩ = some (.int .i64 (ps.getD i (0, 0)).2)) : RowP w a ps := by
  intro k hk
  rw [flatP_len] at hk
  obtain ⟨b, o, e, h1, h2⟩ := h (k / 2) (by omega)
  rcases Nat.mod_two_eq_zero_or_one k with hm | hm
  · have ek : k = 2 * (k / 2) := by omega
    refine ⟨b, o, e, ?_⟩
    have e2 : (flatP ps).getD k 0 = (ps.getD (k / 2) (0, 0)).1 := by rw [ek, flatP_fst, ← ek]
    rw [e2, ← h1]
    congr 2
    omega
  · have ek : k = 2 * (k / 2) + 1 := by omega
    refine ⟨b, o, e, ?_⟩
    have e2 : (flatP ps).getD k 0 = (ps.getD (k / 2) (0, 0)).2 := by
      have := flatP_snd ps (k / 2)
      rw [← ek] at this
      exact this
    rw [e2, ← h2]
    congr 2
    omega
theorem open_pairs {t e q : TypeId} {f0 f1 : Field} {fuel : Nat} {v0 : Value} {x : DataW H × List MemPlace} (ht : P.underlying t = some (.slice e)) (he : P.underlying e = some (.struct #[f0, f1])) (t0 : f0.type = q) (t1 : f1.type = q) (hq : P.underlying q = some (.int .i64))
    (ce : P.cellsOf e = 2) (o0 : f0.offset = 0) (o1 : f1.offset = 1) (cq : P.cellsOf q = 1) (h : DataW.trod enc P w base (fun _ => true) held fuel t [v0] = some x) :
    ∃ (a : Option Addr) (c : Nat) (ss : List (Int × Int)), v0 = .slice a ss.length c ∧ RowP w a ss ∧ ss.length ≤ maxLen := by
  rcases open_slice_pairs ht he ce o0 o1 (by rw [t0]; exact cq) (by rw [t1]; exact cq) h with ⟨h0, _⟩ | ⟨a, len, cap, m, n, V0, V1, D0, D1, P0, P1, h0, _, hl, hm, hmm, _, hx⟩
  · exact ⟨none, 0, [], by simpa using h0, RowP.of_at (fun i hi => by simp at hi), by simp⟩
  simp only [if_true] at hmm
  subst hmm
  have hv0 : v0 = .slice (some a) len m := by simpa using h0
  refine ⟨some a, m, (List.range len).map fun i => (intOfV (V0 i), intOfV (V1 i)), by simpa using hv0, RowP.of_at fun i hi => ?_, by simp; omega⟩
  have hi' : i < len := by simpa using hi
  obtain ⟨q1, q2, q3, q4⟩ := hx i (by omega)
  rw [t0] at q3
  rw [t1] at q4
  obtain ⟨z0, e0, _, _⟩ := DataW.trod_int hq q3
  obtain ⟨z1, e1, _, _⟩ := DataW.trod_int hq q4
  simp at e0 e1
  obtain ⟨b, o, rfl⟩ := spot_none (hx 0 (by omega)).1
  rw [add_at] at q1 q2
  refine ⟨b, o, rfl, ?_, ?_⟩
  · rw [q1, e0]; simp [List.getD_eq_getElem?_getD, hi', e0, intOfV]
  · rw [Nat.add_assoc, q2, e1]; simp [List.getD_eq_getElem?_getD, hi', e1, intOfV]
end
end Go.Proofs.YthgkmaccbcpaeaaDoor
