/- What the laws do with slices of integers, and with slices of those: their size, their copies, whether they are equal, marks. -/
import Derived.Test.YtpploijlijnahaaProg
import Derived.Test.YtpploijlijnahaaOwn
import Derived.Deep.QuietTactic
import Derived.BigQuiet
namespace Go.Proofs.Ytpploijlijnahaa
open Go.RowKit
theorem Try.infoI64 : (Try.prog.info? 2).map (fun i => (i.zero, i.size, i.bytes)) = some (some (.int .i64 0), 1, 8) := by kernel_rfl
theorem Try.infoRow : (Try.prog.info? 54).map (fun i => (i.zero, i.size, i.bytes)) = some (some (.slice none 0 0), 1, 24) := by kernel_rfl
def szS (left : Int) (n : Nat) : Int := if left - n < 0 then -1 else left - n
def szGo : Int → List Nat → Int
  | left, [] => left
  | left, n :: ns => if left - n < 0 then -1 else szGo (left - n) ns
def szSS (left : Int) (ns : List Nat) : Int := if left - ns.length < 0 then -1 else szGo (left - ns.length) ns
theorem szGo_neg (l : List Nat) : ∀ left : Int, left ≤ -1 → szGo left l ≤ -1 := by
  induction l with
  | nil => intro left h; exact h
  | cons n ns ih => intro left h; unfold szGo; rw [if_pos (by omega)]; omega
theorem szGo_le (l : List Nat) : ∀ left : Int, 0 ≤ szGo left l → szGo left l + (l.sum : Nat) ≤ left := by
  induction l with
  | nil => intro left _; simp [szGo]
  | cons n ns ih =>
    intro left h
    unfold szGo at h ⊢
    split at h
    · omega
    · rename_i hn
      rw [if_neg hn]
      have := ih _ h
      simp only [List.sum_cons] at *
      omega
set_option maxHeartbeats 400000 in
theorem szInt64S_any (a : Option Addr) (n c : Nat) (left : Int) (w : World) (hl : 0 ≤ left) (hl2 : left ≤ 1048576) (hn : n ≤ maxLen) :
    Calls Try.prog 125 #[.slice a n c, .int .i64 left] w fun e w' => e = .returned (.int .i64 (szS left n)) ∧ w.Ext w' := by
  unfold maxLen at hn
  unfold szS
  by_cases h : left - n < 0
  · rw [if_pos h]
    go_enter Try.func125, Try.ntmps125
    go_wp2
    go_ret
    exact ⟨rfl, .refl _⟩
  · rw [if_neg h]
    go_enter Try.func125, Try.ntmps125
    go_wp2
    go_ret
    exact ⟨rfl, .refl _⟩
theorem szGo_drop (left : Int) (l : List Nat) (k : Nat) (h : k < l.length) : szGo left (l.drop k) = if left - (l.getD k 0 : Nat) < 0 then -1 else szGo (left - (l.getD k 0 : Nat)) (l.drop (k + 1)) := by
  rw [List.drop_eq_getElem_cons h]
  simp [szGo, List.getD_eq_getElem?_getD, h]
set_option maxHeartbeats 400000 in
theorem szInt64SS_any (a : Option Addr) (c : Nat) (A : Nat → Option Addr) (C : Nat → Nat) (m : List (List Int)) (left : Int) (w : World) (hl : 0 ≤ left) (hl2 : left ≤ 1048576) (hn : m.length ≤ maxLen)
    (hm : MatAt w a A C m) (hr : ∀ r, (m.getD r []).length ≤ maxLen) :
    Calls Try.prog 59 #[.slice a m.length c, .int .i64 left] w fun e w' => e = .returned (.int .i64 (szSS left (m.map List.length))) ∧ w.Ext w' := by
  unfold maxLen at hn
  unfold szSS
  rw [List.length_map]
  by_cases h : left - m.length < 0
  · rw [if_pos h]
    go_enter Try.func59, Try.ntmps59
    go_wp2
    go_ret
    exact ⟨rfl, .refl _⟩
  · rw [if_neg h]
    go_enter Try.func59, Try.ntmps59
    go_wp2
    go_loopw [1, 5] (fun l i wr => ∃ (k : Nat) (z : Int), k ≤ m.length ∧ i = .int .i64 k ∧ l = .int .i64 z ∧ 0 ≤ z ∧ z ≤ 1048576 ∧ Hid (szGo (left - m.length) (m.map List.length) = szGo z ((m.map List.length).drop k)) ∧ w.Ext wr) (fun _ i _ => m.length - (intOf i).toNat)
    case atStart => exact ⟨0, _, Nat.zero_le _, rfl, rfl, by omega, by omega, rfl, .refl _⟩
    case round =>
      obtain ⟨k, z, hk, rfl, rfl, hz0, hz1, HS, hx⟩ := hrel
      by_cases hlt : k < m.length
      · obtain ⟨⟨b, o, rfl, hc⟩, _⟩ := (hm.ext hx) k hlt
        have hrk := hr k
        have hd := szGo_drop z (m.map List.length) k (by simpa using hlt)
        rw [show (m.map List.length).getD k 0 = (m.getD k []).length by simp [List.getD_eq_getElem?_getD, hlt]] at hd
        generalize (m.getD k []).length = q at *
        have HD := Lib.hid hd
        clear hd
        clear hr hm
        have hlt' : (k : Int) < (m.length : Int) := by omega
        by_cases hneg : z - (q : Nat) < 0
        · go_wp2_with (go_at_call 125; refine (szInt64S_any _ _ _ _ _ hz0 hz1 hrk).mono ?_; rintro e w' ⟨rfl, x1, rfl⟩; rw [szS, if_pos hneg])
          go_ret
          refine ⟨ret_int ?_, ?_⟩
          · rw [HS.out, HD.out, if_pos hneg]
          repeat (first | exact World.Ext.refl _ | exact ⟨_, rfl⟩ | assumption | refine World.Ext.over ?_ _ | refine World.Ext.drewN ?_ _ | refine World.Ext.drew ?_ | refine World.Ext.alloc ?_ _ | refine World.Ext.setCell ?_ (by simp) _)
        · go_wp2_with (go_at_call 125; refine (szInt64S_any _ _ _ _ _ hz0 hz1 hrk).mono ?_; rintro e w' ⟨rfl, x1, rfl⟩; rw [szS, if_neg hneg])
          go_roundw
          case rel => exact ⟨k + 1, z - (q : Nat), by omega, by go_num, rfl, by omega, by omega, (by show _ = _; rw [HS.out, HD.out, if_neg (by omega)]), hx.over _⟩
          case measure => simp [intOf]; omega
      · have : k = m.length := by omega
        subst this
        go_wp2
        go_ret
        refine ⟨ret_int ?_, hx⟩
        rw [HS.out, List.drop_of_length_le (by simp)]
        rfl
set_option maxHeartbeats 400000 in
theorem toInt64S_any (a : Option Addr) (c : Nat) (zs : List Int) (w : World) (hn : zs.length ≤ 1048576) (hr : RowI w a zs) :
    Calls Try.prog 130 #[.slice a zs.length c] w fun e w' => ∃ g, e = .returned (.slice (some ⟨g, 0, none⟩) zs.length zs.length) ∧ w.Ext w' ∧ w.heap.size ≤ g ∧ BlkOf (Value.int .i64) w' g 2 zs := by
  obtain ⟨i0, hi, hz0, hz1, hz2⟩ := info_parts Try.infoI64
  have HN := Lib.hid hn
  clear hn
  have c1 : i0.bytes * zs.length ≤ 281474976710656 := by rw [hz2]; have := HN.out; omega
  have c2 : zs.length ≤ maxLen := by unfold maxLen; have := HN.out; omega
  have hm : zs.length ≤ 9223372036854775807 := by have := HN.out; omega
  have C1 := Lib.hid c1
  have C2 := Lib.hid c2
  clear c1 c2
  go_enter Try.func130, Try.ntmps130
  go_wp2_with (at_make; refine wpList_make_full _ rfl _ _ 54 rfl 0 2 i0 (.int .i64 0) 1 Try.underlying54 hi hz0 hz1 .i64 .i64 _ _ zs.length rfl rfl rfl rfl C1.out C2.out (Nat.zero_le _) (fun w1 hown hgrow => ?_))
  have hb0 := blk_of_made (f := Value.int .i64) 0 rfl hown
  rw [← copied_zero] at hb0
  have hx0 := World.Ext.made hgrow
  clear hown hgrow
  obtain ⟨g, hg⟩ : ∃ g, g = w.heap.size := ⟨_, rfl⟩
  rw [← hg] at hb0 ⊢
  have HG := Lib.hid hg
  clear hg
  go_loopw [4] (fun i wr => ∃ k : Nat, k ≤ zs.length ∧ i = .int .i64 k ∧ w.Ext wr ∧ BlkOf (Value.int .i64) wr g 2 (copied 0 zs k)) (fun i _ => zs.length - (intOf i).toNat)
  case atStart => exact ⟨0, Nat.zero_le _, rfl, hx0, hb0⟩
  case round =>
    obtain ⟨k, hk, rfl, hx, hb⟩ := hrel
    have hle := copied_len 0 zs k hk
    by_cases hlt : k < zs.length
    · obtain ⟨b, o, rfl, hc⟩ := (RowOf.ext hr hx) k hlt
      have hcell := hb.cell 0 (by rw [hle]; exact hlt)
      have hfree := hb.free k
      have hb1 := hb.set k (zs.getD k 0)
      rw [copied_set 0 zs k hlt] at hb1
      have hx1 := hx.setCell (p := ⟨g, k, none⟩) (by rw [HG.out]; exact Nat.le_refl _) (.int .i64 (zs.getD k 0))
      have HB := Lib.hid hb1
      have HX := Lib.hid hx1
      clear hb hb1 hx1 hle hr
      generalize zs.getD k 0 = z at hc HB HX ⊢
      go_wp2
      go_roundw
      case rel => exact ⟨k + 1, by omega, by go_num, HX.out, HB.out⟩
      case measure => simp [intOf]; omega
    · have : k = zs.length := by omega
      subst this
      rw [copied_all] at hb
      go_wp2
      go_ret
      exact ⟨g, rfl, hx, by rw [HG.out]; exact Nat.le_refl _, hb⟩
/-- The rows' values, the rows lying in blocks 'G'. -/
def rowV (m : List (List Int)) (G : Nat → Nat) (r : Nat) : Value := .slice (some ⟨G r, 0, none⟩) (m.getD r []).length (m.getD r []).length
def rowsV (m : List (List Int)) (G : Nat → Nat) (k : Nat) : List Value := (List.range k).map (rowV m G) ++ List.replicate (m.length - k) (.slice none 0 0)
theorem rowsV_len (m : List (List Int)) (G : Nat → Nat) (k : Nat) (h : k ≤ m.length) : (rowsV m G k).length = m.length := by simp [rowsV]; omega
theorem rowsV_zero (m : List (List Int)) (G : Nat → Nat) : rowsV m G 0 = List.replicate m.length (.slice none 0 0) := by simp [rowsV]
theorem rowsV_set (m : List (List Int)) (G : Nat → Nat) (k g : Nat) (h : k < m.length) :
    (rowsV m G k).set k (.slice (some ⟨g, 0, none⟩) (m.getD k []).length (m.getD k []).length) = rowsV m (fun r => if r = k then g else G r) (k + 1) := by
  unfold rowsV
  rw [List.set_append_right _ _ (by simp)]
  obtain ⟨n, hn⟩ : ∃ n, m.length - k = n + 1 := ⟨m.length - k - 1, by omega⟩
  rw [show m.length - (k + 1) = n by omega, hn, List.replicate_succ]
  rw [show k - (List.map (rowV m G) (List.range k)).length = 0 by simp, List.set_cons_zero]
  rw [List.range_succ, List.map_append, List.append_assoc]
  congr 1
  · apply List.map_congr_left
    intro r hr
    have : r ≠ k := by have := List.mem_range.1 hr; omega
    simp [rowV, this]
  · simp [rowV]
theorem rowsV_at (m : List (List Int)) (G : Nat → Nat) (r : Nat) (h : r < m.length) : (rowsV m G m.length).getD r undef = rowV m G r := by
  simp [rowsV, List.getD_eq_getElem?_getD, h]
/-- What lies there after k rows. -/
structure SomeRows (w0 wr : World) (g : Nat) (m : List (List Int)) (k : Nat) (G : Nat → Nat) : Prop where
  ext : w0.Ext wr
  blk : BlkOf id wr g 54 (rowsV m G k)
  lo : w0.heap.size ≤ g
  rows : ∀ r, r < k → BlkOf (Value.int .i64) wr (G r) 2 (m.getD r []) ∧ g < G r
  up : ∀ r s, r < s → s < k → G r < G s
theorem SomeRows.next {w0 wr w2 : World} {g : Nat} {m : List (List Int)} {k : Nat} {G : Nat → Nat} (h : SomeRows w0 wr g m k G) (hk : k < m.length) (hx : wr.Ext w2) (g' : Nat) (hg' : wr.heap.size ≤ g')
    (hb : BlkOf (Value.int .i64) w2 g' 2 (m.getD k [])) :
    SomeRows w0 (w2.setCell ⟨g, k, none⟩ (.slice (some ⟨g', 0, none⟩) (m.getD k []).length (m.getD k []).length)) g m (k + 1) (fun r => if r = k then g' else G r) := by
  have hlt := h.blk.lt
  refine ⟨(h.ext.trans hx).setCell h.lo _, ?_, h.lo, fun r hr => ?_, fun r s hrs hs => ?_⟩
  · rw [← rowsV_set m G k g' hk]
    exact (h.blk.ext hx).set k (.slice (some ⟨g', 0, none⟩) (m.getD k []).length (m.getD k []).length)
  · by_cases e : r = k
    · subst e
      simp only [if_true]
      exact ⟨hb.setCell_other (by simp; omega) _, by omega⟩
    · simp only [e, if_false]
      obtain ⟨h1, h2⟩ := h.rows r (by omega)
      exact ⟨(h1.ext hx).setCell_other (by simp; omega) _, h2⟩
  · by_cases e : s = k
    · have e' : r ≠ k := by omega
      simp only [e, e', if_true, if_false]
      have := (h.rows r (by omega)).1.lt
      omega
    · have e' : r ≠ k := by omega
      simp only [e, e', if_false]
      exact h.up r s hrs (by omega)
theorem SomeRows.own {w0 wr : World} {g : Nat} {m : List (List Int)} {G : Nat → Nat} (h : SomeRows w0 wr g m m.length G) :
    OwnMat w0.heap.size wr.heap.size wr (some ⟨g, 0, none⟩) (fun r => some ⟨G r, 0, none⟩) (fun r => (m.getD r []).length) m := by
  refine ⟨fun r hr => ⟨g, 0, rfl, h.lo, h.blk.lt, ?_, ?_⟩, fun r hr => ?_, ?_⟩
  · rw [Nat.zero_add, h.blk.cell undef (by rw [rowsV_len _ _ _ (Nat.le_refl _)]; exact hr), rowsV_at m G r hr]
    rfl
  · intro s b' o' hs hb
    simp only [Option.some.injEq, Addr.mk.injEq, and_true] at hb
    have := (h.rows s hs).2
    omega
  · obtain ⟨h1, h2⟩ := h.rows r hr
    exact h1.own 0 (by have := h.lo; omega) (Nat.le_refl _)
  · intro r s b o b' o' hr hs hne hb hb'
    simp only [Option.some.injEq, Addr.mk.injEq, and_true] at hb hb'
    rcases Nat.lt_or_gt_of_ne hne with h1 | h1
    · have := h.up r s h1 hs; omega
    · have := h.up s r h1 hr; omega
set_option maxHeartbeats 400000 in
theorem toInt64SS_any (a : Option Addr) (c : Nat) (A : Nat → Option Addr) (C : Nat → Nat) (m : List (List Int)) (w : World) (hn : m.length ≤ 1048576) (hrow : ∀ r, (m.getD r []).length ≤ 1048576) (hm : MatAt w a A C m) :
    Calls Try.prog 61 #[.slice a m.length c] w fun e w' => ∃ g G, e = .returned (.slice (some ⟨g, 0, none⟩) m.length m.length) ∧ SomeRows w w' g m m.length G := by
  obtain ⟨i0, hi, hz0, hz1, hz2⟩ := info_parts Try.infoRow
  have HN := Lib.hid hn
  have HR := Lib.hid hrow
  have HM := Lib.hid hm
  clear hn hrow hm
  have c1 : i0.bytes * m.length ≤ 281474976710656 := by rw [hz2]; have := HN.out; omega
  have c2 : m.length ≤ maxLen := by unfold maxLen; have := HN.out; omega
  have hm : m.length ≤ 9223372036854775807 := by have := HN.out; omega
  have C1 := Lib.hid c1
  have C2 := Lib.hid c2
  clear c1 c2
  go_enter Try.func61, Try.ntmps61
  go_wp2_with (at_make; refine wpList_make_full _ rfl _ _ 66 rfl 0 54 i0 (.slice none 0 0) 1 Try.underlying66 hi hz0 hz1 .i64 .i64 _ _ m.length rfl rfl rfl rfl C1.out C2.out (Nat.zero_le _) (fun w1 hown hgrow => ?_))
  have hb0 := blk_of_made (f := id) (.slice none 0 0) rfl hown
  rw [← rowsV_zero m (fun _ => 0)] at hb0
  have hx0 := World.Ext.made hgrow
  clear hown hgrow
  obtain ⟨g, hg⟩ : ∃ g, g = w.heap.size := ⟨_, rfl⟩
  rw [← hg] at hb0 ⊢
  have hS : SomeRows w w1 g m 0 (fun _ => 0) := ⟨hx0, hb0, by omega, fun r hr => by omega, fun r s _ hs => by omega⟩
  clear hg hb0 hx0
  have HS := Lib.hid hS
  clear hS
  go_loopw [4] (fun i wr => ∃ (k : Nat) (G : Nat → Nat), k ≤ m.length ∧ i = .int .i64 k ∧ Hid (SomeRows w wr g m k G)) (fun i _ => m.length - (intOf i).toNat)
  case atStart => exact ⟨0, _, Nat.zero_le _, rfl, HS⟩
  case round =>
    obtain ⟨k, G, hk, rfl, HS'⟩ := hrel
    by_cases hlt : k < m.length
    · obtain ⟨⟨b, o, rfl, hc⟩, hrow⟩ := (HM.out.ext HS'.out.ext) k hlt
      have hcell := HS'.out.blk.cell undef (by rw [rowsV_len _ _ _ hk]; exact hlt)
      have hfree := HS'.out.blk.free k
      have hlen := HR.out k
      have hnext := fun w2 hx2 g' hg2 hb2 => HS'.out.next (w2 := w2) hlt hx2 g' hg2 hb2
      have hlt' : (k : Int) < (m.length : Int) := by omega
      generalize m.getD k [] = q at hc hrow hlen hnext
      have HROW := Lib.hid hrow
      have HLEN := Lib.hid hlen
      have HN2 := Lib.hid hnext
      clear hrow hlen hnext
      generalize (rowsV m G k).getD k undef = qv at hcell
      go_wp2_with (go_at_call 130; refine (toInt64S_any _ _ q _ HLEN.out HROW.out).mono ?_; rintro e w2 ⟨g', rfl, hx2, hg2, hb2⟩; have HB2 := Lib.hid hb2; have hcell2 := hx2.cell hcell; have hfree2 := (hx2.frozen hcell).trans hfree; clear hb2)
      go_roundw
      case rel => exact ⟨k + 1, _, by omega, by go_num, HN2.out _ hx2 g' hg2 HB2.out⟩
      case measure => simp [intOf]; omega
    · have : k = m.length := by omega
      subst this
      go_wp2
      go_ret
      exact ⟨g, G, rfl, HS'.out⟩
set_option maxHeartbeats 400000 in
theorem eqInt64S_any (a b : Option Addr) (c c' : Nat) (zs : List Int) (w : World) (hn : zs.length ≤ maxLen) (ha : RowI w a zs) (hb : RowI w b zs) :
    Calls Try.prog 42 #[.slice a zs.length c, .slice b zs.length c'] w fun e w' => e = .returned (.bool true) ∧ w.Ext w' := by
  unfold maxLen at hn
  have HA := Lib.hid ha
  have HB := Lib.hid hb
  clear ha hb
  go_enter Try.func42, Try.ntmps42
  go_wp2
  go_loopw [5] (fun i wr => ∃ k : Nat, k ≤ zs.length ∧ i = .int .i64 k ∧ w.Ext wr) (fun i _ => zs.length - (intOf i).toNat)
  case atStart => exact ⟨0, Nat.zero_le _, rfl, .refl _⟩
  case round =>
    obtain ⟨k, hk, rfl, hx⟩ := hrel
    by_cases hlt : k < zs.length
    · obtain ⟨b1, o1, rfl, hc1⟩ := (RowOf.ext HA.out hx) k hlt
      obtain ⟨b2, o2, rfl, hc2⟩ := (RowOf.ext HB.out hx) k hlt
      have hk0 : (0 : Int) ≤ (k : Int) := by omega
      have hlt' : (k : Int) < (zs.length : Int) := by omega
      generalize zs.getD k 0 = z at hc1 hc2
      go_wp2
      refine wp_region_over_lit (by kernel_rfl) (by kernel_rfl) ?_
      repeat (go_big_quiet_step (fail))
      refine wpQuiet_nil ?_
      rintro _ ⟨x1, rfl⟩
      go_wp2
      go_roundw
      case rel => exact ⟨k + 1, by omega, by go_num, hx.over _⟩
      case measure => simp [intOf]; omega
    · have : k = zs.length := by omega
      subst this
      go_wp2
      go_ret
      exact ⟨rfl, hx⟩
set_option maxHeartbeats 400000 in
theorem eqInt64SS_any (a b : Option Addr) (c c' : Nat) (A B : Nat → Option Addr) (C D : Nat → Nat) (m : List (List Int)) (w : World) (hn : m.length ≤ maxLen) (hr : ∀ r, (m.getD r []).length ≤ maxLen) (ha : MatAt w a A C m) (hb : MatAt w b B D m) :
    Calls Try.prog 63 #[.slice a m.length c, .slice b m.length c'] w fun e w' => e = .returned (.bool true) ∧ w.Ext w' := by
  unfold maxLen at hn
  have HA := Lib.hid ha
  have HB := Lib.hid hb
  have HR := Lib.hid hr
  clear ha hb hr
  go_enter Try.func63, Try.ntmps63
  go_wp2
  go_loopw [5] (fun i wr => ∃ k : Nat, k ≤ m.length ∧ i = .int .i64 k ∧ w.Ext wr) (fun i _ => m.length - (intOf i).toNat)
  case atStart => exact ⟨0, Nat.zero_le _, rfl, .refl _⟩
  case round =>
    obtain ⟨k, hk, rfl, hx⟩ := hrel
    by_cases hlt : k < m.length
    · obtain ⟨⟨b1, o1, rfl, hc1⟩, hr1⟩ := (HA.out.ext hx) k hlt
      obtain ⟨⟨b2, o2, rfl, hc2⟩, hr2⟩ := (HB.out.ext hx) k hlt
      have hlen := HR.out k
      have hk0 : (0 : Int) ≤ (k : Int) := by omega
      have hlt' : (k : Int) < (m.length : Int) := by omega
      generalize m.getD k [] = q at hc1 hc2 hr1 hr2 hlen
      have HR1 := Lib.hid hr1
      have HR2 := Lib.hid hr2
      have HL := Lib.hid hlen
      clear hr1 hr2 hlen
      go_wp2
      refine wp_region_over_lit (by kernel_rfl) (by kernel_rfl) ?_
      repeat (go_big_quiet_step ((go_at_call 42; exact Calls.over_of (eqInt64S_any _ _ _ _ q _ HL.out (RowOf.ext HR1.out ⟨_, rfl⟩) (RowOf.ext HR2.out ⟨_, rfl⟩)))))
      refine wpQuiet_nil ?_
      rintro _ ⟨x1, rfl⟩
      go_wp2
      go_roundw
      case rel => exact ⟨k + 1, by omega, by go_num, hx.over _⟩
      case measure => simp [intOf]; omega
    · have : k = m.length := by omega
      subst this
      go_wp2
      go_ret
      exact ⟨rfl, hx⟩
theorem marked_at (k0 : Int) (zs : List Int) (k : Nat) (h : k < zs.length) : (marksI k0 zs.length).getD k 0 = k0 + k := marksI_at _ _ _ h
set_option maxHeartbeats 400000 in
theorem markInt64S_any (a : Option Addr) (c : Nat) (zs : List Int) (k0 : Int) (lo hi : Nat) (w : World) (hn : zs.length ≤ 1048576) (h0 : 0 ≤ k0) (h1 : k0 ≤ 4194304) (ha : OwnOf (Value.int .i64) 0 lo hi w a zs) :
    Calls Try.prog 43 #[.slice a zs.length c, .int .i64 k0] w fun e w' => e = .returned (.int .i64 (k0 + zs.length)) ∧ Wrote (fun b => lo ≤ b ∧ b < hi ∧ ∃ o, a = some ⟨b, o, none⟩) w w' ∧ OwnOf (Value.int .i64) 0 lo hi w' a (marksI k0 zs.length) := by
  have hh := HalfOf.start (mk := fun i => k0 + (i : Nat)) ha
  have HN := Lib.hid hn
  have hm : zs.length ≤ 4611686018427387904 := by omega
  clear ha hn
  generalize zs.length = n at *
  have HH := Lib.hid hh
  clear hh
  go_enter Try.func43, Try.ntmps43
  go_wp2
  go_loopw [1, 5] (fun l i wr => ∃ k : Nat, k ≤ n ∧ i = .int .i64 k ∧ l = .int .i64 (k0 + k) ∧ Hid (Wrote (fun b => lo ≤ b ∧ b < hi ∧ ∃ o, a = some ⟨b, o, none⟩) w wr ∧ HalfOf (Value.int .i64) (fun i => k0 + (i : Nat)) lo hi wr a n k)) (fun _ i _ => n - (intOf i).toNat)
  case atStart => exact ⟨0, Nat.zero_le _, rfl, by simp, .refl _ _, HH.out⟩
  case round =>
    obtain ⟨k, hk, rfl, rfl, HW⟩ := hrel
    by_cases hlt : k < n
    · obtain ⟨b, o, v, rfl, h2, h3, h4, _, h6⟩ := HW.out.2 k hlt
      go_wp2
      go_roundw
      case rel => exact ⟨k + 1, by omega, by go_num, by go_num, HW.out.1.setCell ⟨h2, h3, o, rfl⟩ _, (HW.out.2.next hlt :)⟩
      case measure => simp [intOf]; omega
    · have : k = n := by omega
      subst this
      go_wp2
      go_ret
      exact ⟨rfl, HW.out.1, by have := HW.out.2.done 0; simpa [marksI] using this⟩
def offM (m : List (List Int)) : Nat → Nat
  | 0 => 0
  | r + 1 => offM m r + (m.getD r []).length
theorem offM_mono (m : List (List Int)) (r s : Nat) (h : r ≤ s) : offM m r ≤ offM m s := by
  induction s with
  | zero => rw [Nat.le_zero.1 h]; exact Nat.le_refl _
  | succ s ih =>
    by_cases e : r = s + 1
    · rw [e]; exact Nat.le_refl _
    · have := ih (by omega); show offM m r ≤ offM m s + _; omega
theorem offM_cons (x : List Int) (m : List (List Int)) (r : Nat) : offM (x :: m) (r + 1) = x.length + offM m r := by
  induction r with
  | zero => simp [offM]
  | succ r ih => rw [offM, ih]; simp [offM]; omega
theorem offM_all (m : List (List Int)) : offM m m.length = (m.map List.length).sum := by
  induction m with
  | nil => rfl
  | cons x m ih => rw [List.length_cons, offM_cons, ih]; simp
def marksM (k0 : Int) (m : List (List Int)) : List (List Int) := (List.range m.length).map fun r => marksI (k0 + offM m r) (m.getD r []).length
theorem marksM_len (k0 : Int) (m : List (List Int)) : (marksM k0 m).length = m.length := by simp [marksM]
theorem marksM_at (k0 : Int) (m : List (List Int)) (r : Nat) (h : r < m.length) : (marksM k0 m).getD r [] = marksI (k0 + offM m r) (m.getD r []).length := by
  simp [marksM, List.getD_eq_getElem?_getD, h]
/-- Of which the first k rows are marks. -/
structure HalfM (k0 : Int) (lo hi : Nat) (w0 w : World) (a : Option Addr) (A : Nat → Option Addr) (C : Nat → Nat) (m : List (List Int)) (k : Nat) : Prop where
  wrote : Wrote (fun b => lo ≤ b ∧ b < hi) w0 w
  outer : ∀ r, r < m.length → ∃ b o, a = some ⟨b, o, none⟩ ∧ lo ≤ b ∧ b < hi ∧ w.cell? ⟨b, o + r, none⟩ = some (.slice (A r) (m.getD r []).length (C r)) ∧
    ∀ s b' o', s < m.length → A s = some ⟨b', o', none⟩ → b' ≠ b
  rows : ∀ r, r < m.length → if r < k then OwnOf (Value.int .i64) 0 lo hi w (A r) (marksI (k0 + offM m r) (m.getD r []).length) else OwnOf (Value.int .i64) 0 lo hi w (A r) (m.getD r [])
  apart : ∀ r s b o b' o', r < m.length → s < m.length → r ≠ s → A r = some ⟨b, o, none⟩ → A s = some ⟨b', o', none⟩ → b ≠ b'
theorem OwnOf.wroteAt {α : Type} {f : α → Value} {d : α} {lo hi : Nat} {w w' : World} {a : Option Addr} {xs : List α} {S : Nat → Prop} (h : OwnOf f d lo hi w a xs) (hx : Wrote S w w') (hs : ∀ b o, a = some ⟨b, o, none⟩ → ¬ S b) : OwnOf f d lo hi w' a xs :=
  fun i hi => let ⟨b, o, h1, h2, h2', h3, h4⟩ := h i hi; ⟨b, o, h1, h2, h2', hx.cell h3 (hs b o h1), by rw [hx.frozen h3 (hs b o h1)]; exact h4⟩
theorem HalfM.next {k0 : Int} {lo hi : Nat} {w0 w w' : World} {a : Option Addr} {A : Nat → Option Addr} {C : Nat → Nat} {m : List (List Int)} {k : Nat} (h : HalfM k0 lo hi w0 w a A C m k) (hk : k < m.length)
    (hw : Wrote (fun b => lo ≤ b ∧ b < hi ∧ ∃ o, A k = some ⟨b, o, none⟩) w w') (ho : OwnOf (Value.int .i64) 0 lo hi w' (A k) (marksI (k0 + offM m k) (m.getD k []).length)) : HalfM k0 lo hi w0 w' a A C m (k + 1) := by
  refine ⟨h.wrote.trans (hw.mono fun b _ hb => ⟨hb.1, hb.2.1⟩), fun r hr => ?_, fun r hr => ?_, h.apart⟩
  · obtain ⟨b, o, h1, h2, h3, h4, h5⟩ := h.outer r hr
    exact ⟨b, o, h1, h2, h3, hw.cell h4 (fun ⟨_, _, o', ho'⟩ => h5 k b o' hk ho' rfl), h5⟩
  · have hr0 := h.rows r hr
    by_cases e : r = k
    · subst e
      rw [if_pos (by omega)]
      exact ho
    · have hne : ∀ b o, A r = some ⟨b, o, none⟩ → ¬ (lo ≤ b ∧ b < hi ∧ ∃ o, A k = some ⟨b, o, none⟩) := fun b o hb ⟨_, _, o', hb'⟩ => h.apart r k b o b o' hr hk e hb hb' rfl
      by_cases e2 : r < k
      · rw [if_pos e2] at hr0
        rw [if_pos (by omega)]
        exact OwnOf.wroteAt hr0 hw hne
      · rw [if_neg e2] at hr0
        rw [if_neg (by omega)]
        exact OwnOf.wroteAt hr0 hw hne
theorem HalfM.done {k0 : Int} {lo hi : Nat} {w0 w : World} {a : Option Addr} {A : Nat → Option Addr} {C : Nat → Nat} {m : List (List Int)} (h : HalfM k0 lo hi w0 w a A C m m.length) : OwnMat lo hi w a A C (marksM k0 m) := by
  refine ⟨fun r hr => ?_, fun r hr => ?_, fun r s b o b' o' hr hs => ?_⟩
  · rw [marksM_len] at hr
    obtain ⟨b, o, h1, h2, h3, h4, h5⟩ := h.outer r hr
    refine ⟨b, o, h1, h2, h3, by rw [marksM_at _ _ _ hr, marksI_len]; exact h4, fun s b' o' hs => ?_⟩
    rw [marksM_len] at hs
    exact h5 s b' o' hs
  · rw [marksM_len] at hr
    rw [marksM_at _ _ _ hr]
    have := h.rows r hr
    rwa [if_pos hr] at this
  · rw [marksM_len] at hr hs
    exact h.apart r s b o b' o' hr hs
set_option maxHeartbeats 400000 in
theorem markInt64SS_any (a : Option Addr) (c : Nat) (A : Nat → Option Addr) (C : Nat → Nat) (m : List (List Int)) (k0 : Int) (lo hi : Nat) (w : World) (hn : m.length ≤ 1048576) (hr : ∀ r, (m.getD r []).length ≤ 1048576)
    (h0 : 0 ≤ k0) (h1 : k0 + offM m m.length ≤ 4194304) (ha : OwnMat lo hi w a A C m) :
    Calls Try.prog 64 #[.slice a m.length c, .int .i64 k0] w fun e w' => e = .returned (.int .i64 (k0 + offM m m.length)) ∧ Wrote (fun b => lo ≤ b ∧ b < hi) w w' ∧ OwnMat lo hi w' a A C (marksM k0 m) := by
  have hh : HalfM k0 lo hi w w a A C m 0 := ⟨.refl _ _, ha.outer, fun r hr => by rw [if_neg (by omega)]; exact ha.rows r hr, ha.apart⟩
  have HR := Lib.hid hr
  have HH := Lib.hid hh
  have H1 := Lib.hid h1
  have hm : m.length ≤ 4611686018427387904 := by omega
  clear ha hr hh h1 hn
  go_enter Try.func64, Try.ntmps64
  go_wp2
  go_loopw [1, 5] (fun l i wr => ∃ k : Nat, k ≤ m.length ∧ i = .int .i64 k ∧ l = .int .i64 (k0 + offM m k) ∧ Hid (HalfM k0 lo hi w wr a A C m k)) (fun _ i _ => m.length - (intOf i).toNat)
  case atStart => exact ⟨0, Nat.zero_le _, rfl, by simp [offM], HH.out⟩
  case round =>
    obtain ⟨k, hk, rfl, rfl, HW⟩ := hrel
    by_cases hlt : k < m.length
    · obtain ⟨b, o, rfl, h2, h3, hc, _⟩ := HW.out.outer k hlt
      have hrow := HW.out.rows k hlt
      rw [if_neg (by omega)] at hrow
      have hlen := HR.out k
      have hnext := fun w' hw ho => HW.out.next (w' := w') hlt hw ho
      have hoff : k0 + offM m k ≤ 4194304 := by have := offM_mono m k m.length hk; have := H1.out; omega
      have hoff0 : 0 ≤ k0 + offM m k := by omega
      have hsucc : offM m (k + 1) = offM m k + (m.getD k []).length := rfl
      generalize hq : m.getD k [] = q at hc hrow hlen hnext hsucc
      obtain ⟨z, hz⟩ : ∃ z : Int, z = k0 + offM m k := ⟨_, rfl⟩
      rw [← hz] at hoff hoff0 hnext ⊢
      have HZ := Lib.hid hz
      clear hz
      have HROW := Lib.hid hrow
      have HLEN := Lib.hid hlen
      have HNEXT := Lib.hid hnext
      have HSUCC := Lib.hid hsucc
      have HOFF := Lib.hid hoff
      have HOFF0 := Lib.hid hoff0
      clear hrow hlen hnext hsucc hq hoff hoff0
      go_wp2_with (go_at_call 43; refine (markInt64S_any _ _ q _ lo hi _ HLEN.out HOFF0.out HOFF.out HROW.out).mono ?_; rintro e w2 ⟨rfl, hw2, ho2⟩; have HW2 := Lib.hid hw2; have HO2 := Lib.hid ho2; clear hw2 ho2)
      go_roundw
      case rel => exact ⟨k + 1, by omega, by go_num, (congrArg (Value.int .i64) (by rw [HZ.out, HSUCC.out]; omega)), HNEXT.out _ HW2.out HO2.out⟩
      case measure => simp [intOf]; omega
    · have : k = m.length := by omega
      subst this
      go_wp2
      go_ret
      exact ⟨rfl, HW.out.wrote, HW.out.done⟩
set_option maxHeartbeats 400000 in
theorem heldInt64S_any (a : Option Addr) (n c : Nat) (k0 : Int) (w : World) (hn : n ≤ 1048576) (h0 : 0 ≤ k0) (h1 : k0 ≤ 4194304) (ha : RowI w a (marksI k0 n)) :
    Calls Try.prog 44 #[.slice a n c, .int .i64 k0] w fun e w' => e = .returned (.int .i64 (k0 + n)) ∧ w.Ext w' := by
  have HA := Lib.hid ha
  have hm : n ≤ 4611686018427387904 := by omega
  clear ha hn
  go_enter Try.func44, Try.ntmps44
  go_wp2
  go_loopw [1, 5] (fun l i wr => ∃ k : Nat, k ≤ n ∧ i = .int .i64 k ∧ l = .int .i64 (k0 + k) ∧ w.Ext wr) (fun _ i _ => n - (intOf i).toNat)
  case atStart => exact ⟨0, Nat.zero_le _, rfl, by simp, .refl _⟩
  case round =>
    obtain ⟨k, hk, rfl, rfl, hx⟩ := hrel
    by_cases hlt : k < n
    · obtain ⟨b, o, rfl, hc⟩ := (RowOf.ext HA.out hx) k (by rw [marksI_len]; exact hlt)
      rw [marksI_at _ _ _ hlt] at hc
      have hlt' : (k : Int) < (n : Int) := by omega
      go_wp2
      go_roundw
      case rel => exact ⟨k + 1, by omega, by go_num, by go_num, hx⟩
      case measure => simp [intOf]; omega
    · have : k = n := by omega
      subst this
      go_wp2
      go_ret
      exact ⟨rfl, hx⟩
set_option maxHeartbeats 400000 in
theorem heldInt64SS_any (a : Option Addr) (c : Nat) (A : Nat → Option Addr) (C : Nat → Nat) (m : List (List Int)) (k0 : Int) (w : World) (hn : m.length ≤ 1048576) (hr : ∀ r, (m.getD r []).length ≤ 1048576)
    (h0 : 0 ≤ k0) (h1 : k0 + offM m m.length ≤ 4194304) (ha : MatAt w a A C (marksM k0 m)) :
    Calls Try.prog 124 #[.slice a m.length c, .int .i64 k0] w fun e w' => e = .returned (.int .i64 (k0 + offM m m.length)) ∧ w.Ext w' := by
  have HA := Lib.hid ha
  have HR := Lib.hid hr
  have H1 := Lib.hid h1
  have hm : m.length ≤ 4611686018427387904 := by omega
  clear ha hr h1 hn
  go_enter Try.func124, Try.ntmps124
  go_wp2
  go_loopw [1, 5] (fun l i wr => ∃ k : Nat, k ≤ m.length ∧ i = .int .i64 k ∧ l = .int .i64 (k0 + offM m k) ∧ w.Ext wr) (fun _ i _ => m.length - (intOf i).toNat)
  case atStart => exact ⟨0, Nat.zero_le _, rfl, by simp [offM], .refl _⟩
  case round =>
    obtain ⟨k, hk, rfl, rfl, hx⟩ := hrel
    by_cases hlt : k < m.length
    · obtain ⟨⟨b, o, rfl, hc⟩, hrow⟩ := (HA.out.ext hx) k (by rw [marksM_len]; exact hlt)
      rw [marksM_at _ _ _ hlt] at hc hrow
      rw [marksI_len] at hc
      have hlen := HR.out k
      have hoff : k0 + offM m k ≤ 4194304 := by have := offM_mono m k m.length hk; have := H1.out; omega
      have hoff0 : 0 ≤ k0 + offM m k := by omega
      have hsucc : offM m (k + 1) = offM m k + (m.getD k []).length := rfl
      have hlt' : (k : Int) < (m.length : Int) := by omega
      have hall : k0 + offM m (k + 1) ≤ 4194304 := by have := offM_mono m (k + 1) m.length hlt; have := H1.out; omega
      generalize (m.getD k []).length = q at *
      obtain ⟨z, hz⟩ : ∃ z : Int, z = k0 + offM m k := ⟨_, rfl⟩
      rw [← hz] at hoff hoff0 hrow ⊢
      have hnn : (z + q < 0) = False := by simp; omega
      have hnd : decide (z + (q : Int) < 0) = false := by simp; omega
      have HROW := Lib.hid hrow
      have HLEN := Lib.hid hlen
      have HSUCC := Lib.hid hsucc
      have HALL := Lib.hid hall
      have HZ := Lib.hid hz
      clear hrow hsucc hz hall
      go_wp2_with (go_at_call 44; refine (heldInt64S_any _ q _ _ _ HLEN.out hoff0 hoff HROW.out).mono ?_; rintro e w2 ⟨rfl, x1, rfl⟩)
      go_roundw
      case rel => exact ⟨k + 1, by omega, by go_num, (congrArg (Value.int .i64) (by rw [HZ.out, HSUCC.out]; omega)), hx.over _⟩
      case measure => simp [intOf]; omega
    · have : k = m.length := by omega
      subst this
      go_wp2
      go_ret
      exact ⟨rfl, hx⟩
end Go.Proofs.Ytpploijlijnahaa
