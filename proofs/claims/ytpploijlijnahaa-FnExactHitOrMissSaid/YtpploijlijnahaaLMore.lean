/- What the exact laws do with values, in one form for all kinds: sizes, copies, equality, marks, held. -/
import Derived.Test.YtpploijlijnahaaLWrap
namespace Go.Proofs.Ytpploijlijnahaa
open Go.RowKit
def PicLen (s : List ByteArray) : Prop := s.length ≤ maxLen ∧ ∀ r, (s.getD r ByteArray.empty).size ≤ maxLen
def PicBnd (s : List ByteArray) : Prop := s.length ≤ 1048576 ∧ ∀ r, (s.getD r ByteArray.empty).size ≤ 1048576
def MatLen (m : List (List Int)) : Prop := m.length ≤ maxLen ∧ ∀ r, (m.getD r []).length ≤ maxLen
def MatBnd (m : List (List Int)) : Prop := m.length ≤ 1048576 ∧ ∀ r, (m.getD r []).length ≤ 1048576
def IntsLen (s : List Int) : Prop := s.length ≤ maxLen
def IntsBnd (s : List Int) : Prop := s.length ≤ 1048576
section
variable {w0 w w' : World} {a b c d f g : Addr} {v1 v2 v3 v4 v5 v6 : Value}
theorem keepR1 (h : w.cell? a = some v1 ∧ w0.Ext w) (hx : w.Ext w') : w'.cell? a = some v1 ∧ w0.Ext w' := ⟨hx.cell h.1, h.2.trans hx⟩
theorem keepR2 (h : w.cell? a = some v1 ∧ w.cell? b = some v2 ∧ w0.Ext w) (hx : w.Ext w') : w'.cell? a = some v1 ∧ w'.cell? b = some v2 ∧ w0.Ext w' := ⟨hx.cell h.1, hx.cell h.2.1, h.2.2.trans hx⟩
theorem keepR3 (h : w.cell? a = some v1 ∧ w.cell? b = some v2 ∧ w.cell? c = some v3 ∧ w0.Ext w) (hx : w.Ext w') : w'.cell? a = some v1 ∧ w'.cell? b = some v2 ∧ w'.cell? c = some v3 ∧ w0.Ext w' :=
  ⟨hx.cell h.1, hx.cell h.2.1, hx.cell h.2.2.1, h.2.2.2.trans hx⟩
theorem keepR4 (h : w.cell? a = some v1 ∧ w.cell? b = some v2 ∧ w.cell? c = some v3 ∧ w.cell? d = some v4 ∧ w0.Ext w) (hx : w.Ext w') : w'.cell? a = some v1 ∧ w'.cell? b = some v2 ∧ w'.cell? c = some v3 ∧ w'.cell? d = some v4 ∧ w0.Ext w' :=
  ⟨hx.cell h.1, hx.cell h.2.1, hx.cell h.2.2.1, hx.cell h.2.2.2.1, h.2.2.2.2.trans hx⟩
end
theorem RowS.ext {w w' : World} {a : Option Addr} {s : List ByteArray} (h : RowS w a s) (hx : w.Ext w') : RowS w' a s := RowOf.ext h hx
theorem RowI.ext {w w' : World} {a : Option Addr} {s : List Int} (h : RowI w a s) (hx : w.Ext w') : RowI w' a s := RowOf.ext h hx
theorem newCell1 {w w' : World} {v : Value} {T : TypeId} (h : (w.alloc (.cells #[v] T)).Ext w') : w'.cell? ⟨w.heap.size, 0, none⟩ = some v ∧ w'.frozen? ⟨w.heap.size, 0, none⟩ = false :=
  ⟨h.cell (by simp [go_sem]), h.free (v := v) (by simp [go_sem]) (by simp [go_sem])⟩
theorem newCellD {w w' : World} {v : Value} {T : TypeId} (h : (w.alloc (.cells #[v] T)).drew.Ext w') : w'.cell? ⟨w.heap.size, 0, none⟩ = some v ∧ w'.frozen? ⟨w.heap.size, 0, none⟩ = false := newCell1 (((World.Ext.refl _).drew).trans h)
theorem oldCell1 {w w' : World} {a : Addr} {v : Value} (h : w.cell? a = some v ∧ w.frozen? a = false) (hx : w.Ext w') : w'.cell? a = some v ∧ w'.frozen? a = false := ⟨hx.cell h.1, hx.free h.1 h.2⟩
theorem le_sum_of_mem : ∀ (l : List Nat) (x : Nat), x ∈ l → x ≤ l.sum
  | [], x, h => by cases h
  | y :: l, x, h => by
    rw [List.sum_cons]
    rcases List.mem_cons.1 h with rfl | h
    · omega
    · have := le_sum_of_mem l x h
      omega
theorem szSS_le {left z : Int} {ns : List Nat} (h : szSS left ns = z) (h0 : 0 ≤ z) : z + ns.length + (ns.sum : Nat) ≤ left ∧ ∀ n ∈ ns, (n : Int) ≤ left := by
  unfold szSS at h
  split at h
  · omega
  · have h1 := szGo_le ns (left - ns.length) (by rw [h]; exact h0)
    rw [h] at h1
    refine ⟨by omega, fun n hn => ?_⟩
    have := le_sum_of_mem ns n hn
    omega
theorem szSS_hi {left : Int} (hl : 0 ≤ left) : ∀ ns : List Nat, szSS left ns ≤ left := fun ns => by
  by_cases h : 0 ≤ szSS left ns
  · have := (szSS_le rfl h).1
    omega
  · omega
theorem szGo_drop2 (left : Int) (l : List Nat) (k : Nat) (h : k < l.length) : szGo left (l.drop k) = if left - (l.getD k 0 : Nat) < 0 then -1 else szGo (left - (l.getD k 0 : Nat)) (l.drop (k + 1)) := by
  rw [List.drop_eq_getElem_cons h]
  simp [szGo, List.getD_eq_getElem?_getD, h]
set_option maxRecDepth 5000 in
set_option maxHeartbeats 400000 in
theorem szStringS_any (a : Option Addr) (c : Nat) (m : List ByteArray) (left : Int) (w : World) (hl : 0 ≤ left) (hl2 : left ≤ 1048576) (hn : m.length ≤ maxLen)
    (hm : RowS w a m) (hr : ∀ r, (m.getD r ByteArray.empty).size ≤ maxLen) :
    Calls Try.prog 69 #[.slice a m.length c, .int .i64 left] w fun e w' => e = .returned (.int .i64 (szSS left (m.map ByteArray.size))) ∧ w.Ext w' := by
  unfold maxLen at hn
  unfold szSS
  rw [List.length_map]
  have HM := Lib.hid hm
  clear hm
  by_cases h : left - m.length < 0
  · rw [if_pos h]
    go_enter Try.func69, Try.ntmps69
    go_wp2
    go_ret
    exact ⟨rfl, .refl _⟩
  · rw [if_neg h]
    have h' : 0 ≤ left - m.length := by omega
    have h2 : ¬ left < m.length := by omega
    clear h
    go_enter Try.func69, Try.ntmps69
    go_wp2
    go_loopw [1, 5] (fun l i wr => ∃ (k : Nat) (z : Int), k ≤ m.length ∧ i = .int .i64 k ∧ l = .int .i64 z ∧ 0 ≤ z ∧ z ≤ 1048576 ∧ Hid (szGo (left - m.length) (m.map ByteArray.size) = szGo z ((m.map ByteArray.size).drop k)) ∧ w.Ext wr) (fun _ i _ => m.length - (intOf i).toNat)
    case atStart => exact ⟨0, _, Nat.zero_le _, rfl, rfl, by omega, by omega, rfl, .refl _⟩
    case round =>
      obtain ⟨k, z, hk, rfl, rfl, hz0, hz1, HS, hx⟩ := hrel
      by_cases hlt : k < m.length
      · obtain ⟨b, o, rfl, hc⟩ := (RowOf.ext HM.out hx) k hlt
        have hrk := hr k
        have hd := szGo_drop2 z (m.map ByteArray.size) k (by simpa using hlt)
        rw [show (m.map ByteArray.size).getD k 0 = (m.getD k ByteArray.empty).size by simp [List.getD_eq_getElem?_getD, hlt]] at hd
        generalize m.getD k ByteArray.empty = q at *
        have HD := Lib.hid hd
        clear hd
        clear hr
        unfold maxLen at hrk
        have hlt' : (k : Int) < (m.length : Int) := by omega
        by_cases hneg : z - (q.size : Nat) < 0
        · go_wp2
          go_ret
          refine ⟨ret_int ?_, hx⟩
          rw [HS.out, HD.out, if_pos (by omega)]
        · go_wp2
          go_roundw
          case rel => exact ⟨k + 1, z - (q.size : Nat), by omega, by go_num, rfl, by omega, by omega, (by show _ = _; rw [HS.out, HD.out, if_neg (by omega)]), hx⟩
          case measure => simp [intOf]; omega
      · have : k = m.length := by omega
        subst this
        go_wp2
        go_ret
        refine ⟨ret_int ?_, hx⟩
        rw [HS.out, List.drop_of_length_le (by simp)]
        rfl
set_option maxHeartbeats 400000 in
theorem szPicture_ok (a : Option Addr) (c : Nat) (s : List ByteArray) (left : Int) (w : World) (hl : 0 ≤ left) (hl2 : left ≤ 1048576) (hm : RowS w a s) (hn : PicLen s) :
    Calls Try.prog 15 #[.agg #[.slice a s.length c], .int .i64 left] w fun e w' => ∃ z : Int, e = .returned (.int .i64 z) ∧ w.Ext w' ∧ z ≤ left ∧ (0 ≤ z → PicBnd s ∧ z + s.length ≤ left) := by
  have HM := Lib.hid hm
  have HN := Lib.hid hn
  clear hm hn
  obtain ⟨z, hz⟩ : ∃ z, szSS left (s.map ByteArray.size) = z := ⟨_, rfl⟩
  have hzl := szSS_hi hl (s.map ByteArray.size)
  rw [hz] at hzl
  have HZ := Lib.hid hz
  have HB : Hid (0 ≤ z → PicBnd s ∧ z + s.length ≤ left) := fun h0 => by
    obtain ⟨h1, h2⟩ := szSS_le hz h0
    have e : (s.map ByteArray.size).length = s.length := by simp
    rw [e] at h1
    refine ⟨⟨by omega, fun r => ?_⟩, by omega⟩
    by_cases hr : r < s.length
    · have := h2 (s.getD r ByteArray.empty).size (by rw [List.mem_map]; exact ⟨_, by rw [List.getD_eq_getElem?_getD, List.getElem?_eq_getElem hr]; exact List.getElem_mem hr, rfl⟩)
      omega
    · simp [List.getD_eq_getElem?_getD, hr]
  clear hz
  by_cases hneg : z < 0
  · go_enter Try.func15, Try.ntmps15
    go_wp2_with (go_at_call 69; refine (szStringS_any _ _ s _ _ hl hl2 HN.out.1 (RowOf.ext HM.out (by repeat (first | exact World.Ext.refl _ | exact ⟨_, rfl⟩ | assumption | refine World.Ext.over ?_ _ | refine World.Ext.drewN ?_ _ | refine World.Ext.drew ?_ | refine World.Ext.alloc ?_ _ | refine World.Ext.setCell ?_ (by simp) _))) HN.out.2).mono ?_; rintro e w' ⟨rfl, x1, rfl⟩; rw [HZ.out])
    go_ret
    exact ⟨-1, rfl, by repeat (first | exact World.Ext.refl _ | exact ⟨_, rfl⟩ | assumption | refine World.Ext.over ?_ _ | refine World.Ext.drewN ?_ _ | refine World.Ext.drew ?_ | refine World.Ext.alloc ?_ _ | refine World.Ext.setCell ?_ (by simp) _), by omega, fun h => by omega⟩
  · go_enter Try.func15, Try.ntmps15
    go_wp2_with (go_at_call 69; refine (szStringS_any _ _ s _ _ hl hl2 HN.out.1 (RowOf.ext HM.out (by repeat (first | exact World.Ext.refl _ | exact ⟨_, rfl⟩ | assumption | refine World.Ext.over ?_ _ | refine World.Ext.drewN ?_ _ | refine World.Ext.drew ?_ | refine World.Ext.alloc ?_ _ | refine World.Ext.setCell ?_ (by simp) _))) HN.out.2).mono ?_; rintro e w' ⟨rfl, x1, rfl⟩; rw [HZ.out])
    go_ret
    exact ⟨z, rfl, by repeat (first | exact World.Ext.refl _ | exact ⟨_, rfl⟩ | assumption | refine World.Ext.over ?_ _ | refine World.Ext.drewN ?_ _ | refine World.Ext.drew ?_ | refine World.Ext.alloc ?_ _ | refine World.Ext.setCell ?_ (by simp) _), hzl, HB.out⟩
theorem Try.infoStrM : (Try.prog.info? 9).map (fun i => (i.zero, i.size, i.bytes)) = some (some (.string ByteArray.empty), 1, 16) := by kernel_rfl
set_option maxHeartbeats 400000 in
theorem toStringS_any (a : Option Addr) (c : Nat) (zs : List ByteArray) (w : World) (hn : zs.length ≤ 1048576) (hr : RowS w a zs) :
    Calls Try.prog 72 #[.slice a zs.length c] w fun e w' => ∃ g, e = .returned (.slice (some ⟨g, 0, none⟩) zs.length zs.length) ∧ w.Ext w' ∧ w.heap.size ≤ g ∧ BlkOf Value.string w' g 9 zs := by
  obtain ⟨i0, hi, hz0, hz1, hz2⟩ := info_parts Try.infoStrM
  have HN := Lib.hid hn
  clear hn
  have c1 : i0.bytes * zs.length ≤ 281474976710656 := by rw [hz2]; have := HN.out; omega
  have c2 : zs.length ≤ maxLen := by unfold maxLen; have := HN.out; omega
  have hm : zs.length ≤ 9223372036854775807 := by have := HN.out; omega
  have C1 := Lib.hid c1
  have C2 := Lib.hid c2
  clear c1 c2
  go_enter Try.func72, Try.ntmps72
  go_wp2_with (at_make; refine wpList_make_full _ rfl _ _ 22 rfl 0 9 i0 (.string ByteArray.empty) 1 Try.underlying22 hi hz0 hz1 .i64 .i64 _ _ zs.length rfl rfl rfl rfl C1.out C2.out (Nat.zero_le _) (fun w1 hown hgrow => ?_))
  have hb0 := blk_of_made (f := Value.string) ByteArray.empty rfl hown
  rw [← copied_zero] at hb0
  have hx0 := World.Ext.made hgrow
  clear hown hgrow
  obtain ⟨g, hg⟩ : ∃ g, g = w.heap.size := ⟨_, rfl⟩
  rw [← hg] at hb0 ⊢
  have HG := Lib.hid hg
  clear hg
  go_loopw [4] (fun i wr => ∃ k : Nat, k ≤ zs.length ∧ i = .int .i64 k ∧ w.Ext wr ∧ BlkOf Value.string wr g 9 (copied ByteArray.empty zs k)) (fun i _ => zs.length - (intOf i).toNat)
  case atStart => exact ⟨0, Nat.zero_le _, rfl, hx0, hb0⟩
  case round =>
    obtain ⟨k, hk, rfl, hx, hb⟩ := hrel
    have hle := copied_len ByteArray.empty zs k hk
    by_cases hlt : k < zs.length
    · obtain ⟨b, o, rfl, hc⟩ := (RowOf.ext hr hx) k hlt
      have hcell := hb.cell ByteArray.empty (by rw [hle]; exact hlt)
      have hfree := hb.free k
      have hb1 := hb.set k (zs.getD k ByteArray.empty)
      rw [copied_set ByteArray.empty zs k hlt] at hb1
      have hx1 := hx.setCell (p := ⟨g, k, none⟩) (by rw [HG.out]; exact Nat.le_refl _) (.string (zs.getD k ByteArray.empty))
      have HB := Lib.hid hb1
      have HX := Lib.hid hx1
      clear hb hb1 hx1 hle hr
      generalize zs.getD k ByteArray.empty = z at hc HB HX ⊢
      go_wp2
      go_roundw
      case rel => exact ⟨k + 1, by omega, by go_num, HX.out, HB.out⟩
      case measure => simp [intOf]; omega
    · have : k = zs.length := by omega
      subst this
      rw [copied_all] at hb
      go_wp2
      go_ret
      exact ⟨g, rfl, hx, by rw [HG.out]; exact Nat.le_refl _, hb⟩
set_option maxHeartbeats 400000 in
theorem toPicture_ok (a : Option Addr) (c : Nat) (s : List ByteArray) (w : World) (hn : PicBnd s) (hm : RowS w a s) :
    Calls Try.prog 18 #[.agg #[.slice a s.length c]] w fun e w' => ∃ g, e = .returned (.agg #[.slice (some ⟨g, 0, none⟩) s.length s.length]) ∧ w.Ext w' ∧ OwnOf Value.string ByteArray.empty w.heap.size w'.heap.size w' (some ⟨g, 0, none⟩) s := by
  have HM := Lib.hid hm
  have HN := Lib.hid hn
  clear hm hn
  go_enter Try.func18, Try.ntmps18
  go_wp2_with fail
  refine (toStringS_any _ _ s _ HN.out.1 (RowOf.ext HM.out (by repeat (first | exact World.Ext.refl _ | exact ⟨_, rfl⟩ | assumption | refine World.Ext.over ?_ _ | refine World.Ext.drewN ?_ _ | refine World.Ext.drew ?_ | refine World.Ext.alloc ?_ _ | refine World.Ext.setCell ?_ (by simp) _)))).mono ?_
  rintro e w1 ⟨g, rfl, hx, hlg, hS⟩
  have HO := Lib.hid (hS.own ByteArray.empty (lo := w.heap.size) (hi := w1.heap.size) (by simp at hlg; omega) (Nat.le_refl _))
  have hgs : w.heap.size + 3 ≤ g := by simp at hlg; omega
  clear hS
  have q1 := hx.cell (a := ⟨w.heap.size + 1 + 1, 0, none⟩) (v := .slice none 0 0) (by simp [go_sem])
  have q2 := hx.cell (a := ⟨w.heap.size + 1, 0, none⟩) (v := .slice none 0 0) (by simp [go_sem])
  have q3 : w1.frozen? ⟨w.heap.size + 1 + 1, 0, none⟩ = false := hx.free (v := .slice none 0 0) (by simp [go_sem]) (by simp [go_sem])
  have q4 : w1.frozen? ⟨w.heap.size + 1, 0, none⟩ = false := hx.free (v := .slice none 0 0) (by simp [go_sem]) (by simp [go_sem])
  go_wp2
  have hs := hx.size
  simp at hs
  refine bodyPost_ret (v := .agg #[.slice (some ⟨g, 0, none⟩) s.length s.length]) (by simp [results, Try.results18, go_sem, *]) rfl ⟨g, rfl, ?_, ?_⟩
  · refine World.Ext.setCell (World.Ext.setCell (World.Ext.trans (by repeat (first | exact World.Ext.refl _ | exact ⟨_, rfl⟩ | assumption | refine World.Ext.over ?_ _ | refine World.Ext.drewN ?_ _ | refine World.Ext.drew ?_ | refine World.Ext.alloc ?_ _ | refine World.Ext.setCell ?_ (by simp) _)) hx) (by simp; omega) _) (by simp) _
  · have hw : Wrote (fun b => b < w.heap.size + 3) w1 ((w1.setCell ⟨w.heap.size + 1 + 1, 0, none⟩ (.slice (some ⟨g, 0, none⟩) s.length s.length)).setCell ⟨w.heap.size + 1, 0, none⟩ (.slice (some ⟨g, 0, none⟩) s.length s.length)) := ((Wrote.refl _ _).setCell (by simp) _).setCell (by simp) _
    have h1 : OwnOf Value.string ByteArray.empty (w.heap.size + 3) w1.heap.size w1 (some ⟨g, 0, none⟩) s := fun i hi => by
      obtain ⟨b, o, e, _, h3, h4⟩ := HO.out i hi
      cases e
      exact ⟨_, _, rfl, hgs, h3, h4⟩
    refine (h1.wrote hw (fun k h2 h3 => by omega)).mono ?_ ?_
    · omega
    · simp
theorem eqPicture_ok (a b : Option Addr) (c c' : Nat) (s : List ByteArray) (w : World) (hn : PicBnd s) (ha : RowS w a s) (hb : RowS w b s) :
    Calls Try.prog 21 #[.agg #[.slice a s.length c], .agg #[.slice b s.length c']] w fun e w' => e = .returned (.bool true) ∧ w.Ext w' :=
  eqPicture_any a b c c' s w (Nat.le_trans hn.1 (by unfold maxLen; omega)) ha hb
theorem eqPicture_res (a b : Option Addr) (c c' : Nat) (s : List ByteArray) (w : World) (hn : s.length ≤ 1048576) (ha : RowS w a s) (hb : RowS w b s) :
    Calls Try.prog 21 #[.agg #[.slice a s.length c], .agg #[.slice b s.length c']] w fun e w' => e = .returned (.bool true) ∧ w.Ext w' :=
  eqPicture_any a b c c' s w (Nat.le_trans hn (by unfold maxLen; omega)) ha hb
theorem markPicture_ok (a : Option Addr) (c : Nat) (s : List ByteArray) (k0 lo hi : Nat) (w : World) (hn : PicBnd s) (h1 : k0 ≤ 2097152 ∧ s.length ≤ 1048576) (ha : OwnOf Value.string ByteArray.empty lo hi w a s) :
    Calls Try.prog 23 #[.agg #[.slice a s.length c], .int .i64 k0] w fun e w' => e = .returned (.int .i64 (k0 + s.length : Nat)) ∧ Wrote (fun b => lo ≤ b ∧ b < hi) w w' ∧ OwnOf Value.string ByteArray.empty lo hi w' a (marksS k0 s.length) :=
  markPicture_any a c s k0 lo hi w hn.1 h1.1 ha
theorem markPicture_res (a : Option Addr) (c : Nat) (s : List ByteArray) (k0 lo hi : Nat) (w : World) (hn : s.length ≤ 1048576) (h1 : k0 ≤ 2097152 ∧ s.length ≤ 1048576) (ha : OwnOf Value.string ByteArray.empty lo hi w a s) :
    Calls Try.prog 23 #[.agg #[.slice a s.length c], .int .i64 k0] w fun e w' => e = .returned (.int .i64 (k0 + s.length : Nat)) ∧ Wrote (fun b => lo ≤ b ∧ b < hi) w w' ∧ OwnOf Value.string ByteArray.empty lo hi w' a (marksS k0 s.length) :=
  markPicture_any a c s k0 lo hi w hn h1.1 ha
theorem heldPicture_res (a : Option Addr) (c : Nat) (s : List ByteArray) (k0 : Nat) (w : World) (hn : s.length ≤ 1048576) (h1 : k0 ≤ 2097152 ∧ s.length ≤ 1048576) (ha : RowS w a (marksS k0 s.length)) :
    Calls Try.prog 25 #[.agg #[.slice a s.length c], .int .i64 k0] w fun e w' => e = .returned (.int .i64 (k0 + s.length : Nat)) ∧ w.Ext w' :=
  heldPicture_any a s.length c k0 w hn h1.1 ha
end Go.Proofs.Ytpploijlijnahaa
