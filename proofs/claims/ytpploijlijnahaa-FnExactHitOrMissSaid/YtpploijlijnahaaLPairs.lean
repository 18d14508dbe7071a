/- Slices of spots: pairs of integers, as rows of integers; what the laws do with them. -/
import Derived.Test.YtpploijlijnahaaLMore
namespace Go.Proofs.Ytpploijlijnahaa
open Go.RowKit
/-- Pairs as the integers in their order. -/
def flatP : List (Int × Int) → List Int
  | [] => []
  | p :: ps => p.1 :: p.2 :: flatP ps
theorem flatP_len : ∀ ps : List (Int × Int), (flatP ps).length = 2 * ps.length
  | [] => rfl
  | p :: ps => by simp [flatP, flatP_len ps]; omega
theorem flatP_fst : ∀ (ps : List (Int × Int)) (i : Nat), (flatP ps).getD (2 * i) 0 = (ps.getD i (0, 0)).1
  | [], i => by simp [flatP]
  | p :: ps, 0 => by simp [flatP]
  | p :: ps, i + 1 => by
    have := flatP_fst ps i
    rw [show 2 * (i + 1) = 2 * i + 1 + 1 by omega]
    simpa [flatP] using this
theorem flatP_snd : ∀ (ps : List (Int × Int)) (i : Nat), (flatP ps).getD (2 * i + 1) 0 = (ps.getD i (0, 0)).2
  | [], i => by simp [flatP]
  | p :: ps, 0 => by simp [flatP]
  | p :: ps, i + 1 => by
    have := flatP_snd ps i
    rw [show 2 * (i + 1) + 1 = 2 * i + 1 + 1 + 1 by omega]
    simpa [flatP] using this
def RowP (w : World) (a : Option Addr) (ps : List (Int × Int)) : Prop := RowOf (Value.int .i64) 0 w a (flatP ps)
def OwnP (lo hi : Nat) (w : World) (a : Option Addr) (ps : List (Int × Int)) : Prop := OwnOf (Value.int .i64) 0 lo hi w a (flatP ps)
def PairLen (s : List (Int × Int)) : Prop := s.length ≤ maxLen
def PairBnd (s : List (Int × Int)) : Prop := s.length ≤ 1048576
section
variable {w w' : World} {a : Option Addr} {ps : List (Int × Int)} {lo hi lo' hi' : Nat}
theorem RowP.ext (h : RowP w a ps) (hx : w.Ext w') : RowP w' a ps := RowOf.ext h hx
theorem OwnP.ext (h : OwnP lo hi w a ps) (hx : w.Ext w') : OwnP lo hi w' a ps := OwnOf.ext h hx
theorem OwnP.row (h : OwnP lo hi w a ps) : RowP w a ps := OwnOf.row h
theorem OwnP.mono (h : OwnP lo hi w a ps) (hl : lo' ≤ lo) (hh : hi ≤ hi') : OwnP lo' hi' w a ps := OwnOf.mono h hl hh
theorem OwnP.wrote {S : Nat → Prop} (h : OwnP lo hi w a ps) (hx : Wrote S w w') (hs : ∀ k, lo ≤ k → k < hi → ¬ S k) : OwnP lo hi w' a ps := OwnOf.wrote h hx hs
theorem RowP.at (h : RowP w a ps) {i : Nat} (hi : i < ps.length) : ∃ b o, a = some ⟨b, o, none⟩ ∧ w.cell? ⟨b, o + i * 2, none⟩ = some (.int .i64 (ps.getD i (0, 0)).1) ∧ w.cell? ⟨b, o + i * 2 + 1, none⟩ = some (.int .i64 (ps.getD i (0, 0)).2) := by
  have hl := flatP_len ps
  obtain ⟨b, o, e, h1⟩ := h (2 * i) (by omega)
  obtain ⟨b', o', e', h2⟩ := h (2 * i + 1) (by omega)
  rw [e] at e'
  cases e'
  rw [flatP_fst] at h1
  rw [flatP_snd] at h2
  exact ⟨b, o, e, by rw [Nat.mul_comm i 2]; exact h1, by rw [Nat.mul_comm i 2, Nat.add_assoc]; exact h2⟩
end
set_option maxHeartbeats 400000 in
theorem szSpotS_any (a : Option Addr) (n c : Nat) (left : Int) (w : World) (hl : 0 ≤ left) (hl2 : left ≤ 1048576) (hn : n ≤ maxLen) :
    Calls Try.prog 70 #[.slice a n c, .int .i64 left] w fun e w' => e = .returned (.int .i64 (szS left n)) ∧ w.Ext w' := by
  unfold maxLen at hn
  unfold szS
  by_cases h : left - n < 0
  · rw [if_pos h]
    go_enter Try.func70, Try.ntmps70
    go_wp2
    go_ret
    exact ⟨rfl, .refl _⟩
  · rw [if_neg h]
    go_enter Try.func70, Try.ntmps70
    go_wp2
    go_ret
    exact ⟨rfl, .refl _⟩
set_option maxHeartbeats 400000 in
theorem szElement_ok (a : Option Addr) (c : Nat) (s : List (Int × Int)) (left : Int) (w : World) (hl : 0 ≤ left) (hl2 : left ≤ 1048576) (_ : RowP w a s) (hn : PairLen s) :
    Calls Try.prog 16 #[.agg #[.slice a s.length c], .int .i64 left] w fun e w' => ∃ z : Int, e = .returned (.int .i64 z) ∧ w.Ext w' ∧ z ≤ left ∧ (0 ≤ z → PairBnd s ∧ z + s.length ≤ left) := by
  have HN := Lib.hid hn
  clear hn
  by_cases hneg : left - s.length < 0
  · go_enter Try.func16, Try.ntmps16
    go_wp2_with (go_at_call 70; refine (szSpotS_any _ _ _ _ _ hl hl2 HN.out).mono ?_; rintro e w' ⟨rfl, x1, rfl⟩; rw [szS, if_pos (by omega)])
    go_ret
    exact ⟨-1, rfl, by repeat (first | exact World.Ext.refl _ | exact ⟨_, rfl⟩ | assumption | refine World.Ext.over ?_ _ | refine World.Ext.drewN ?_ _ | refine World.Ext.drew ?_ | refine World.Ext.alloc ?_ _ | refine World.Ext.setCell ?_ (by simp) _), by omega, fun h => by omega⟩
  · go_enter Try.func16, Try.ntmps16
    go_wp2_with (go_at_call 70; refine (szSpotS_any _ _ _ _ _ hl hl2 HN.out).mono ?_; rintro e w' ⟨rfl, x1, rfl⟩; rw [szS, if_neg (by omega)])
    go_ret
    exact ⟨left - s.length, rfl, by repeat (first | exact World.Ext.refl _ | exact ⟨_, rfl⟩ | assumption | refine World.Ext.over ?_ _ | refine World.Ext.drewN ?_ _ | refine World.Ext.drew ?_ | refine World.Ext.alloc ?_ _ | refine World.Ext.setCell ?_ (by simp) _), by omega, fun h => ⟨by unfold PairBnd; omega, by omega⟩⟩
set_option maxHeartbeats 400000 in
theorem toSpotP_any (x y : Int) (w : World) :
    Calls Try.prog 152 #[.agg #[.int .i64 x, .int .i64 y]] w fun e w' => e = .returned (.agg #[.int .i64 x, .int .i64 y]) ∧ w.Ext w' := by
  go_enter Try.func152, Try.ntmps152
  go_wp2
  refine bodyPost_ret (v := .agg #[.int .i64 x, .int .i64 y]) (by simp [results, Try.results152, go_sem]) rfl ⟨rfl, ?_⟩
  repeat (first | exact World.Ext.refl _ | exact ⟨_, rfl⟩ | assumption | refine World.Ext.over ?_ _ | refine World.Ext.drewN ?_ _ | refine World.Ext.drew ?_ | refine World.Ext.alloc ?_ _ | refine World.Ext.setCell ?_ (by simp) _)
theorem Try.infoSpotM : (Try.prog.info? 52).map (fun i => (i.zero, i.size, i.bytes)) = some (some (.agg #[.int .i64 0, .int .i64 0]), 2, 16) := by kernel_rfl
theorem blkP_of_made {w : World} {base g n : Nat} {e : TypeId} {z : Value} (hz : z.cells = #[.int .i64 0, .int .i64 0])
    (h : w.ownsRow base e 2 (.slice (some ⟨g, 0, none⟩) n n) n (madeCells z.cells (n * 2)).toList) : BlkOf (Value.int .i64) w g e (List.replicate (2 * n) 0) := by
  obtain ⟨h1, h2⟩ := h
  rcases h2 with ⟨h2, _⟩ | ⟨g', cap, cur, hv, _, hh, _, _, hs, ht⟩
  · cases h2
  · simp only [Value.slice.injEq, Option.some.injEq, Addr.mk.injEq, and_true] at hv
    obtain ⟨rfl, -, rfl⟩ := hv
    unfold BlkOf
    rw [hh]
    have e1 : cur.toList.take (n * 2) = cur.toList := List.take_of_length_le (by simp [hs])
    rw [e1] at ht
    have e2 : cur = (cur.toList).toArray := by simp
    rw [e2, ht, hz]
    congr 2
    apply Array.ext
    · simp [size_madeCells, Nat.mul_comm]
    · intro i h3 h4
      simp only [madeCells, Array.toArray_toList, Array.getElem_map, Array.getElem_range]
      have : i % 2 = 0 ∨ i % 2 = 1 := by omega
      rcases this with h5 | h5 <;> simp [h5]
set_option maxHeartbeats 800000 in
theorem toSpotS_any (a : Option Addr) (c : Nat) (zs : List (Int × Int)) (w : World) (hn : zs.length ≤ 1048576) (hr : RowP w a zs) :
    Calls Try.prog 73 #[.slice a zs.length c] w fun e w' => ∃ g, e = .returned (.slice (some ⟨g, 0, none⟩) zs.length zs.length) ∧ w.Ext w' ∧ w.heap.size ≤ g ∧ BlkOf (Value.int .i64) w' g 52 (flatP zs) := by
  obtain ⟨i0, hi, hz0, hz1, hz2⟩ := info_parts Try.infoSpotM
  have HN := Lib.hid hn
  have HR := Lib.hid hr
  clear hn hr
  have c1 : i0.bytes * zs.length ≤ 281474976710656 := by rw [hz2]; have := HN.out; omega
  have c2 : zs.length ≤ maxLen := by unfold maxLen; have := HN.out; omega
  have hm : zs.length ≤ 4611686018427387904 := by have := HN.out; omega
  have C1 := Lib.hid c1
  have C2 := Lib.hid c2
  clear c1 c2
  go_enter Try.func73, Try.ntmps73
  go_wp2_with (at_make; refine wpList_make_full _ rfl _ _ 34 rfl 0 52 i0 (.agg #[.int .i64 0, .int .i64 0]) 2 Try.underlying34 hi hz0 hz1 .i64 .i64 _ _ zs.length rfl rfl rfl rfl C1.out C2.out (Nat.zero_le _) (fun w1 hown hgrow => ?_))
  have hb0 := blkP_of_made rfl hown
  rw [← flatP_len, ← copied_zero] at hb0
  have hx0 := World.Ext.made hgrow
  clear hown hgrow
  obtain ⟨g, hg⟩ : ∃ g, g = w.heap.size := ⟨_, rfl⟩
  rw [← hg] at hb0 ⊢
  have HG := Lib.hid hg
  clear hg
  go_loopw [4] (fun i wr => ∃ k : Nat, k ≤ zs.length ∧ i = .int .i64 k ∧ Hid (w.Ext wr) ∧ Hid (BlkOf (Value.int .i64) wr g 52 (copied 0 (flatP zs) (2 * k)))) (fun i _ => zs.length - (intOf i).toNat)
  case atStart => exact ⟨0, Nat.zero_le _, rfl, hx0, hb0⟩
  case round =>
    obtain ⟨k, hk, rfl, HX, HB⟩ := hrel
    by_cases hlt : k < zs.length
    · obtain ⟨b, o, rfl, hc1, hc2⟩ := (HR.out.ext HX.out).at hlt
      have hk0 : (0 : Int) ≤ (k : Int) := by omega
      have hlt' : (k : Int) < (zs.length : Int) := by omega
      have HF : Hid ((flatP zs).getD (2 * k) 0 = (zs.getD k (0, 0)).1 ∧ (flatP zs).getD (2 * k + 1) 0 = (zs.getD k (0, 0)).2) := ⟨flatP_fst _ _, flatP_snd _ _⟩
      generalize zs.getD k (0, 0) = p at hc1 hc2 HF
      obtain ⟨x, y⟩ := p
      dsimp only at hc1 hc2 HF
      go_wp2_with fail
      refine (toSpotP_any x y _).mono ?_
      rintro e w2 ⟨rfl, hx2⟩
      have hb1 := HB.out.ext hx2
      have hl := flatP_len zs
      have hcl := copied_len 0 (flatP zs) (2 * k) (by omega)
      have hcell1 := hb1.cell 0 (i := 2 * k) (by omega)
      have hcell2 := hb1.cell 0 (i := 2 * k + 1) (by omega)
      have hfree := hb1.free (2 * k)
      have hfree2 := hb1.free (2 * k + 1)
      have hb2 := (hb1.set (2 * k) x).set (2 * k + 1) y
      have e1 : ((copied 0 (flatP zs) (2 * k)).set (2 * k) x).set (2 * k + 1) y = copied 0 (flatP zs) (2 * (k + 1)) := by
        have h1 := copied_set 0 (flatP zs) (2 * k) (by omega)
        have h2 := copied_set 0 (flatP zs) (2 * k + 1) (by omega)
        rw [HF.out.1] at h1
        rw [HF.out.2] at h2
        rw [h1, h2]
        rfl
      rw [e1] at hb2
      have hx3 := ((HX.out.trans hx2).setCell (p := ⟨g, 2 * k, none⟩) (by rw [HG.out]; exact Nat.le_refl _) (.int .i64 x)).setCell (p := ⟨g, 2 * k + 1, none⟩) (by rw [HG.out]; exact Nat.le_refl _) (.int .i64 y)
      have HB2 := Lib.hid hb2
      have HX3 := Lib.hid hx3
      clear hb1 hb2 hx3 e1 hcl hl hx2
      rw [Nat.mul_comm 2 k] at hcell1 hcell2 hfree hfree2 HB2 HX3
      generalize List.getD _ (k * 2) 0 = old1 at hcell1
      generalize List.getD _ (k * 2 + 1) 0 = old2 at hcell2
      go_wp2
      go_roundw
      case rel => exact ⟨k + 1, by omega, by go_num, HX3.out, HB2.out⟩
      case measure => simp [intOf]; omega
    · have : k = zs.length := by omega
      subst this
      have hb := HB.out
      rw [← flatP_len, copied_all] at hb
      have HB3 := Lib.hid hb
      clear hb
      go_wp2
      go_ret
      exact ⟨g, rfl, HX.out, by rw [HG.out]; exact Nat.le_refl _, HB3.out⟩
set_option maxHeartbeats 400000 in
theorem toElement_ok (a : Option Addr) (c : Nat) (s : List (Int × Int)) (w : World) (hn : PairBnd s) (hm : RowP w a s) :
    Calls Try.prog 19 #[.agg #[.slice a s.length c]] w fun e w' => ∃ g, e = .returned (.agg #[.slice (some ⟨g, 0, none⟩) s.length s.length]) ∧ w.Ext w' ∧ OwnP w.heap.size w'.heap.size w' (some ⟨g, 0, none⟩) s := by
  have HM := Lib.hid hm
  have HN := Lib.hid hn
  clear hm hn
  go_enter Try.func19, Try.ntmps19
  go_wp2_with fail
  refine (toSpotS_any _ _ s _ HN.out (HM.out.ext (by repeat (first | exact World.Ext.refl _ | exact ⟨_, rfl⟩ | assumption | refine World.Ext.over ?_ _ | refine World.Ext.drewN ?_ _ | refine World.Ext.drew ?_ | refine World.Ext.alloc ?_ _ | refine World.Ext.setCell ?_ (by simp) _)))).mono ?_
  rintro e w1 ⟨g, rfl, hx, hlg, hS⟩
  have HO := Lib.hid (hS.own (0 : Int) (lo := w.heap.size) (hi := w1.heap.size) (by simp at hlg; omega) (Nat.le_refl _))
  have hgs : w.heap.size + 3 ≤ g := by simp at hlg; omega
  clear hS
  have q1 := hx.cell (a := ⟨w.heap.size + 1 + 1, 0, none⟩) (v := .slice none 0 0) (by simp [go_sem])
  have q2 := hx.cell (a := ⟨w.heap.size + 1, 0, none⟩) (v := .slice none 0 0) (by simp [go_sem])
  have q3 : w1.frozen? ⟨w.heap.size + 1 + 1, 0, none⟩ = false := hx.free (v := .slice none 0 0) (by simp [go_sem]) (by simp [go_sem])
  have q4 : w1.frozen? ⟨w.heap.size + 1, 0, none⟩ = false := hx.free (v := .slice none 0 0) (by simp [go_sem]) (by simp [go_sem])
  go_wp2
  have hs := hx.size
  simp at hs
  refine bodyPost_ret (v := .agg #[.slice (some ⟨g, 0, none⟩) s.length s.length]) (by simp [results, Try.results19, go_sem, *]) rfl ⟨g, rfl, ?_, ?_⟩
  · refine World.Ext.setCell (World.Ext.setCell (World.Ext.trans (by repeat (first | exact World.Ext.refl _ | exact ⟨_, rfl⟩ | assumption | refine World.Ext.over ?_ _ | refine World.Ext.drewN ?_ _ | refine World.Ext.drew ?_ | refine World.Ext.alloc ?_ _ | refine World.Ext.setCell ?_ (by simp) _)) hx) (by simp; omega) _) (by simp) _
  · have hw : Wrote (fun b => b < w.heap.size + 3) w1 ((w1.setCell ⟨w.heap.size + 1 + 1, 0, none⟩ (.slice (some ⟨g, 0, none⟩) s.length s.length)).setCell ⟨w.heap.size + 1, 0, none⟩ (.slice (some ⟨g, 0, none⟩) s.length s.length)) := ((Wrote.refl _ _).setCell (by simp) _).setCell (by simp) _
    have h1 : OwnP (w.heap.size + 3) w1.heap.size w1 (some ⟨g, 0, none⟩) s := fun i hi => by
      obtain ⟨b, o, e, _, h3, h4⟩ := HO.out i hi
      cases e
      exact ⟨_, _, rfl, hgs, h3, h4⟩
    refine (h1.wrote hw (fun k h2 h3 => by omega)).mono ?_ ?_
    · omega
    · simp
set_option maxHeartbeats 400000 in
theorem eqSpotP_any (x y : Int) (w : World) :
    Calls Try.prog 156 #[.agg #[.int .i64 x, .int .i64 y], .agg #[.int .i64 x, .int .i64 y]] w fun e w' => e = .returned (.bool true) ∧ w.Ext w' := by
  go_enter Try.func156, Try.ntmps156
  go_wp2
  go_ret
  refine ⟨rfl, ?_⟩
  repeat (first | exact World.Ext.refl _ | exact ⟨_, rfl⟩ | assumption | refine World.Ext.over ?_ _ | refine World.Ext.drewN ?_ _ | refine World.Ext.drew ?_ | refine World.Ext.alloc ?_ _ | refine World.Ext.setCell ?_ (by simp) _)
set_option maxHeartbeats 800000 in
theorem eqSpotS_any (a b : Option Addr) (c c' : Nat) (zs : List (Int × Int)) (w : World) (hn : zs.length ≤ 1048576) (ha : RowP w a zs) (hb : RowP w b zs) :
    Calls Try.prog 77 #[.slice a zs.length c, .slice b zs.length c'] w fun e w' => e = .returned (.bool true) ∧ w.Ext w' := by
  have HA := Lib.hid ha
  have HB := Lib.hid hb
  have hn2 : zs.length ≤ 4611686018427387904 := by omega
  clear ha hb hn
  go_enter Try.func77, Try.ntmps77
  go_wp2
  go_loopw [5] (fun i wr => ∃ k : Nat, k ≤ zs.length ∧ i = .int .i64 k ∧ Hid (w.Ext wr)) (fun i _ => zs.length - (intOf i).toNat)
  case atStart => exact ⟨0, Nat.zero_le _, rfl, .refl _⟩
  case round =>
    obtain ⟨k, hk, rfl, HX⟩ := hrel
    by_cases hlt : k < zs.length
    · obtain ⟨b1, o1, rfl, h1, h2⟩ := (HA.out.ext HX.out).at hlt
      obtain ⟨b2, o2, rfl, h3, h4⟩ := (HB.out.ext HX.out).at hlt
      have hk0 : (0 : Int) ≤ (k : Int) := by omega
      have hlt' : (k : Int) < (zs.length : Int) := by omega
      generalize zs.getD k (0, 0) = p at h1 h2 h3 h4
      obtain ⟨x, y⟩ := p
      dsimp only at h1 h2 h3 h4
      go_wp2_with fail
      refine wp_region_over_lit (by kernel_rfl) (by kernel_rfl) ?_; (repeat (go_big_quiet_step ((go_at_call 156; exact Calls.over_of (eqSpotP_any x y _))))); refine wpQuiet_nil ?_; rintro _ ⟨x1, rfl⟩
      go_wp2
      go_roundw
      case rel => exact ⟨k + 1, by omega, by go_num, HX.out.over _⟩
      case measure => simp [intOf]; omega
    · have : k = zs.length := by omega
      subst this
      go_wp2
      go_ret
      exact ⟨rfl, HX.out⟩
set_option maxHeartbeats 400000 in
theorem eqElement_ok (a b : Option Addr) (c c' : Nat) (s : List (Int × Int)) (w : World) (hn : PairBnd s) (ha : RowP w a s) (hb : RowP w b s) :
    Calls Try.prog 22 #[.agg #[.slice a s.length c], .agg #[.slice b s.length c']] w fun e w' => e = .returned (.bool true) ∧ w.Ext w' := by
  have HA := Lib.hid ha
  have HB := Lib.hid hb
  have HN := Lib.hid hn
  clear ha hb hn
  go_enter Try.func22, Try.ntmps22
  go_wp2_with fail
  refine (eqSpotS_any _ _ _ _ s _ HN.out (HA.out.ext (by repeat (first | exact World.Ext.refl _ | exact ⟨_, rfl⟩ | assumption | refine World.Ext.over ?_ _ | refine World.Ext.drewN ?_ _ | refine World.Ext.drew ?_ | refine World.Ext.alloc ?_ _ | refine World.Ext.setCell ?_ (by simp) _))) (HB.out.ext (by repeat (first | exact World.Ext.refl _ | exact ⟨_, rfl⟩ | assumption | refine World.Ext.over ?_ _ | refine World.Ext.drewN ?_ _ | refine World.Ext.drew ?_ | refine World.Ext.alloc ?_ _ | refine World.Ext.setCell ?_ (by simp) _)))).mono ?_
  rintro e w' ⟨rfl, x1, rfl⟩
  go_wp2
  go_ret
  refine ⟨rfl, ?_⟩
  repeat (first | exact World.Ext.refl _ | exact ⟨_, rfl⟩ | assumption | refine World.Ext.over ?_ _ | refine World.Ext.drewN ?_ _ | refine World.Ext.drew ?_ | refine World.Ext.alloc ?_ _ | refine World.Ext.setCell ?_ (by simp) _)
set_option maxHeartbeats 800000 in
theorem markSpotS_any (a : Option Addr) (c : Nat) (ps : List (Int × Int)) (k0 lo hi : Nat) (w : World) (hn : ps.length ≤ 1048576) (h1 : k0 ≤ 2097152) (ha : OwnP lo hi w a ps) :
    Calls Try.prog 79 #[.slice a ps.length c, .int .i64 k0] w fun e w' => e = .returned (.int .i64 (k0 + 2 * ps.length : Nat)) ∧ Wrote (fun b => lo ≤ b ∧ b < hi) w w' ∧ OwnOf (Value.int .i64) 0 lo hi w' a (marksI k0 (2 * ps.length)) := by
  have hh := HalfOf.start (mk := fun i => (k0 : Int) + (i : Nat)) ha
  rw [flatP_len] at hh
  have hm : ps.length ≤ 4611686018427387904 := by omega
  have HN := Lib.hid hn
  clear ha hn
  generalize ps.length = n at *
  have hm2 : n ≤ 1048576 := HN.out
  have HH := Lib.hid hh
  clear hh
  go_enter Try.func79, Try.ntmps79
  go_wp2
  go_loopw [1, 5] (fun l i wr => ∃ k : Nat, k ≤ n ∧ i = .int .i64 k ∧ l = .int .i64 (k0 + k * 2 : Nat) ∧ Hid (Wrote (fun b => lo ≤ b ∧ b < hi) w wr ∧ HalfOf (Value.int .i64) (fun i => (k0 : Int) + (i : Nat)) lo hi wr a (2 * n) (k * 2))) (fun _ i _ => n - (intOf i).toNat)
  case atStart => exact ⟨0, Nat.zero_le _, rfl, by simp, .refl _ _, by rw [Nat.zero_mul]; exact HH.out⟩
  case round =>
    obtain ⟨k, hk, rfl, rfl, HW⟩ := hrel
    by_cases hlt : k < n
    · obtain ⟨b, o, v, rfl, h2, h3, h4, _, h6⟩ := HW.out.2 (k * 2) (by omega)
      obtain ⟨b', o', v', e, _, _, h4', _, h6'⟩ := HW.out.2 (k * 2 + 1) (by omega)
      cases e
      have hk0 : (0 : Int) ≤ (k : Int) := by omega
      have hlt' : (k : Int) < (n : Int) := by omega
      rw [← Nat.add_assoc] at h4' h6'
      have hn1 := (HW.out.2.next (by omega)).next (by omega)
      rw [← Nat.add_assoc] at hn1
      have H1 : Hid (Wrote (fun b => lo ≤ b ∧ b < hi) w ((wr.setCell ⟨b, o + k * 2, none⟩ (.int .i64 ((k0 : Int) + ((k * 2 : Nat) : Int)))).setCell ⟨b, o + k * 2 + 1, none⟩ (.int .i64 ((k0 : Int) + ((k * 2 + 1 : Nat) : Int)))) ∧
          HalfOf (Value.int .i64) (fun i => (k0 : Int) + (i : Nat)) lo hi ((wr.setCell ⟨b, o + k * 2, none⟩ (.int .i64 ((k0 : Int) + ((k * 2 : Nat) : Int)))).setCell ⟨b, o + k * 2 + 1, none⟩ (.int .i64 ((k0 : Int) + ((k * 2 + 1 : Nat) : Int)))) (some ⟨b, o, none⟩) (2 * n) ((k + 1) * 2)) := by
        refine ⟨(HW.out.1.setCell ⟨h2, h3⟩ _).setCell ⟨h2, h3⟩ _, ?_⟩
        rw [show (k + 1) * 2 = k * 2 + 1 + 1 by omega]
        exact hn1
      have e1 : ((k0 : Int) + ((k * 2 : Nat) : Int)) = ((k0 + k * 2 : Nat) : Int) := by omega
      have e2 : ((k0 : Int) + ((k * 2 + 1 : Nat) : Int)) = ((k0 + k * 2 : Nat) : Int) + 1 := by omega
      rw [e1, e2] at H1
      clear hn1 e1 e2
      go_wp2
      go_roundw
      case rel => exact ⟨k + 1, by omega, by go_num, by go_num, H1.out⟩
      case measure => simp [intOf]; omega
    · have : k = n := by omega
      subst this
      go_wp2
      go_ret
      refine ⟨ret_int (by omega), HW.out.1, ?_⟩
      have h5 := HW.out.2
      rw [Nat.mul_comm k 2] at h5
      have := h5.done 0
      simpa [marksI] using this
set_option maxHeartbeats 400000 in
theorem markElement_ok (a : Option Addr) (c : Nat) (s : List (Int × Int)) (k0 lo hi : Nat) (w : World) (hn : PairBnd s) (h1 : k0 ≤ 2097152) (ha : OwnP lo hi w a s) :
    Calls Try.prog 24 #[.agg #[.slice a s.length c], .int .i64 k0] w fun e w' => e = .returned (.int .i64 (k0 + 2 * s.length : Nat)) ∧ Wrote (fun b => lo ≤ b ∧ b < hi) w w' ∧ OwnOf (Value.int .i64) 0 lo hi w' a (marksI k0 (2 * s.length)) := by
  have HA := Lib.hid ha
  have HN := Lib.hid hn
  have hm2 : s.length ≤ 1048576 := hn
  clear ha hn
  go_enter Try.func24, Try.ntmps24
  go_wp2_with fail
  refine (markSpotS_any _ _ s k0 lo hi _ HN.out h1 (HA.out.ext (by repeat (first | exact World.Ext.refl _ | exact ⟨_, rfl⟩ | assumption | refine World.Ext.over ?_ _ | refine World.Ext.drewN ?_ _ | refine World.Ext.drew ?_ | refine World.Ext.alloc ?_ _ | refine World.Ext.setCell ?_ (by simp) _)))).mono ?_
  rintro e w' ⟨rfl, hw, ho⟩
  have HW : Hid (Wrote (fun b => lo ≤ b ∧ b < hi) w w') := ((World.Ext.wrote (by repeat (first | exact World.Ext.refl _ | exact ⟨_, rfl⟩ | assumption | refine World.Ext.over ?_ _ | refine World.Ext.drewN ?_ _ | refine World.Ext.drew ?_ | refine World.Ext.alloc ?_ _ | refine World.Ext.setCell ?_ (by simp) _)) _).trans hw)
  have HO := Lib.hid ho
  clear hw ho
  go_wp2
  go_ret
  exact ⟨rfl, HW.out, HO.out⟩
end Go.Proofs.Ytpploijlijnahaa
