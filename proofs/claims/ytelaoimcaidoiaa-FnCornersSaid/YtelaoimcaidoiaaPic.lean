/- Pictures, as the reference and the program read and make them. -/
import Derived.Test.YtelaoimcaidoiaaKit
import Derived.Test.YtelaoimcaidoiaaProg
import Derived.Deep.QuietTactic
import Derived.BigQuiet
namespace Go.Proofs.Ytelaoimcaidoiaa
open Go.RowKit
def inB (n lo hi : Int) : Bool := decide (lo ≤ n) && decide (n ≤ hi)
theorem inB_true {n lo hi : Int} : inB n lo hi = true ↔ lo ≤ n ∧ n ≤ hi := by simp [inB]
set_option maxHeartbeats 400000 in
theorem l00In_any (n lo hi : Int) (w : World) (t : Bool) (ht : inB n lo hi = t) :
    Calls Try.prog 35 #[.int .i64 n, .int .i64 lo, .int .i64 hi] w fun e w' => e = .returned (.bool t) ∧ w.Ext w' := by
  subst ht
  by_cases h1 : lo ≤ n <;> by_cases h2 : n ≤ hi
  all_goals
    go_enter Try.func35, Try.ntmps35
    go_wp2
    go_ret
    exact ⟨by simp [inB, h1, h2], .refl _⟩
/-- A row of a table is as it should be. -/
def rowOk (width : Nat) (most : Int) (r : List Int) : Bool := decide (r.length = width) && r.all fun n => inB n 0 most
/-- A table of numbers from 0 to 'most', of 1 to 16 rows and columns. -/
def tableOk (m : List (List Int)) (most : Int) : Bool := inB m.length 1 16 && inB (m.getD 0 []).length 1 16 && m.all (rowOk (m.getD 0 []).length most)
theorem all_getD {α : Type} {p : α → Bool} {l : List α} {d : α} : l.all p = true ↔ ∀ i, i < l.length → p (l.getD i d) = true := by
  rw [List.all_eq_true]
  constructor
  · intro h i hi
    rw [List.getD_eq_getElem?_getD, List.getElem?_eq_getElem hi]
    exact h _ (List.getElem_mem hi)
  · intro h x hx
    obtain ⟨i, hi, rfl⟩ := List.getElem_of_mem hx
    have := h i hi
    rwa [List.getD_eq_getElem?_getD, List.getElem?_eq_getElem hi] at this
theorem all_false {α : Type} {p : α → Bool} {l : List α} {d : α} {i : Nat} (hi : i < l.length) (h : p (l.getD i d) = false) : l.all p = false := by
  cases hh : l.all p
  · rfl
  · rw [all_getD (d := d)] at hh
    rw [hh i hi] at h; cases h
theorem Try.infoI64' : (Try.prog.info? 2).map (fun i => (i.zero, i.size, i.bytes)) = some (some (.int .i64 0), 1, 8) := by kernel_rfl
theorem flat_succ (m : List (List Int)) (k : Nat) (h : k < m.length) : (m.take (k + 1)).flatten = (m.take k).flatten ++ m.getD k [] := by
  rw [List.take_succ_eq_append_getElem h, List.flatten_append, List.getD_eq_getElem?_getD, List.getElem?_eq_getElem h]
  simp
theorem flat_take_le (m : List (List Int)) (k : Nat) : (m.take k).flatten.length ≤ m.flatten.length := by
  have : m.flatten = (m.take k).flatten ++ (m.drop k).flatten := by rw [← List.flatten_append, List.take_append_drop]
  rw [this, List.length_append]; omega
end Go.Proofs.Ytelaoimcaidoiaa
namespace Go.Proofs.Ytelaoimcaidoiaa
open Go.RowKit
theorem Try.infoBool : (Try.prog.info? 4).map (fun i => (i.zero, i.size, i.bytes)) = some (some (.bool false), 1, 1) := by kernel_rfl
theorem Try.infoU8 : (Try.prog.info? 5).map (fun i => (i.zero, i.size, i.bytes)) = some (some (.int .u8 0), 1, 1) := by kernel_rfl
theorem Try.infoStr : (Try.prog.info? 9).map (fun i => (i.zero, i.size, i.bytes)) = some (some (.string ByteArray.empty), 1, 16) := by kernel_rfl
def byteOf (b : Bool) : Int := if b then 35 else 46
/-- A row of pixels as text. -/
def rowStr (l : List Bool) : ByteArray := strOfNums (l.map byteOf)
/-- Row y of a list of pixels, the rows having W. -/
def rowAt (W : Nat) (l : List Bool) (y : Nat) : List Bool := (l.drop (y * W)).take W
/-- The rows' texts of a picture of W by H pixels. -/
def picRows (W H : Nat) (l : List Bool) : List ByteArray := (List.range H).map fun y => rowStr (rowAt W l y)
theorem picRows_len (W H : Nat) (l : List Bool) : (picRows W H l).length = H := by simp [picRows]
theorem picRows_succ (W y : Nat) (l : List Bool) : picRows W (y + 1) l = picRows W y l ++ [rowStr (rowAt W l y)] := by simp [picRows, List.range_succ]
theorem rowAt_len (W H : Nat) (l : List Bool) (y : Nat) (hl : l.length = W * H) (hy : y < H) : (rowAt W l y).length = W := by
  unfold rowAt
  rw [List.length_take, List.length_drop, hl]
  have : y * W + W ≤ W * H := by
    have := Nat.mul_le_mul_right W hy
    rw [Nat.succ_mul] at this
    rw [Nat.mul_comm W H]; exact this
  omega
theorem row_bytes (l : List Bool) (f x : Nat) (h : f + x < l.length) : ((l.drop f).take x).map byteOf ++ [byteOf (l.getD (f + x) false)] = ((l.drop f).take (x + 1)).map byteOf := by
  have hx : x < (l.drop f).length := by simp; omega
  rw [List.take_succ_eq_append_getElem hx, List.map_append]
  simp [List.getD_eq_getElem?_getD, h]
theorem makeStart (w : World) (T S : TypeId) :
    One (((w.alloc (.cells #[.slice none 0 0] T)).alloc (.cells #[] S)).alloc (.cells #[.slice (some ⟨w.heap.size + 1, 0, none⟩) 0 0] T)) w.heap.size T (.slice none 0 0) ∧
    One (((w.alloc (.cells #[.slice none 0 0] T)).alloc (.cells #[] S)).alloc (.cells #[.slice (some ⟨w.heap.size + 1, 0, none⟩) 0 0] T)) (w.heap.size + 1 + 1) T (.slice (some ⟨w.heap.size + 1, 0, none⟩) 0 0) ∧
    GrowOf Value.string w.heap.size S (((w.alloc (.cells #[.slice none 0 0] T)).alloc (.cells #[] S)).alloc (.cells #[.slice (some ⟨w.heap.size + 1, 0, none⟩) 0 0] T)) (.slice (some ⟨w.heap.size + 1, 0, none⟩) 0 0) [] ∧
    w.Ext (((w.alloc (.cells #[.slice none 0 0] T)).alloc (.cells #[] S)).alloc (.cells #[.slice (some ⟨w.heap.size + 1, 0, none⟩) 0 0] T)) := by
  refine ⟨((One.new w _ _ _ rfl).ext ((World.Ext.refl _).alloc _)).ext ((World.Ext.refl _).alloc _), One.new _ _ _ _ (by simp), ?_, by repeat (first | exact World.Ext.refl _ | exact ⟨_, rfl⟩ | assumption | refine World.Ext.over ?_ _ | refine World.Ext.drewN ?_ _ | refine World.Ext.drew ?_ | refine World.Ext.alloc ?_ _ | refine World.Ext.setCell ?_ (by simp) _)⟩
  have := (GrowOf.empty (f := Value.string) (lo := w.heap.size) (e := S) (w.alloc (.cells #[.slice none 0 0] T)) (by simp)).ext ((World.Ext.refl _).alloc (.cells #[.slice (some ⟨w.heap.size + 1, 0, none⟩) 0 0] T))
  simpa using this
/-- What stands when y rows have been made. -/
structure Rowed (w0 : World) (p4 p5 : Nat) (T S : TypeId) (W : Nat) (l : List Bool) (y : Nat) (w : World) : Prop where
  ext : w0.Ext w
  le4 : w0.heap.size ≤ p4
  le5 : w0.heap.size ≤ p5
  ne : p4 ≠ p5
  res : One w p4 T (.slice none 0 0)
  str : ∃ v, One w p5 T v ∧ GrowOf Value.string w0.heap.size S w v (picRows W y l)
theorem Rowed.next {w0 w w1 : World} {p4 p5 : Nat} {T S : TypeId} {W y : Nat} {l : List Bool} (h : Rowed w0 p4 p5 T S W l y w) {v v' : Value} (hST : S ≠ T) (hv : One w p5 T v) (hg : GrowOf Value.string w0.heap.size S w v (picRows W y l))
    {o : Obj} (hgrow : (w.alloc o).grownBy w1 v.ownBlock) (hown : w1.ownsRow w0.heap.size S 1 v' ((picRows W y l).length + 1) ((picRows W y l).map Value.string ++ [Value.string (rowStr (rowAt W l y))])) :
    Rowed w0 p4 p5 T S W l (y + 1) (w1.setCell ⟨p5, 0, none⟩ v') := by
  have hg1 := GrowOf.push (x := rowStr (rowAt W l y)) hown
  rw [← picRows_succ] at hg1
  have hx := hg.pushExt h.ext hgrow
  have hv1 := (hv.ext ((World.Ext.refl _).alloc o)).grown hgrow (hg.ne hv hST)
  have hr1 := (h.res.ext ((World.Ext.refl _).alloc o)).grown hgrow (hg.ne h.res hST)
  exact ⟨hx.setCell h.le5 _, h.le4, h.le5, h.ne, hr1.other (by simp; exact fun e => h.ne e.symm) _, v', hv1.set v', hg1.setCell (hg1.ne hv1 hST) _⟩
theorem Rowed.move {w0 w w1 : World} {p4 p5 : Nat} {T S : TypeId} {W y : Nat} {l : List Bool} (h : Rowed w0 p4 p5 T S W l y w) (hx : w.Ext w1) : Rowed w0 p4 p5 T S W l y w1 :=
  ⟨h.ext.trans hx, h.le4, h.le5, h.ne, h.res.ext hx, let ⟨v, h1, h2⟩ := h.str; ⟨v, h1.ext hx, h2.ext hx⟩⟩
set_option maxRecDepth 5000 in
set_option maxHeartbeats 1600000 in
theorem l01Make_any (a : Option Addr) (c W H : Nat) (l : List Bool) (w : World) (hW : 1 ≤ W) (hW2 : W ≤ 64) (hH : H ≤ 64) (hl : l.length = W * H) (hr : RowB w a l) :
    Calls Try.prog 36 #[.int .i64 W, .slice a l.length c] w fun e w' => ∃ a' c', e = .returned (.agg #[.slice a' H c']) ∧ w.Ext w' ∧ OwnOf Value.string ByteArray.empty w.heap.size w'.heap.size w' a' (picRows W H l) := by
  obtain ⟨iu, hiu, hu0, hu1, hu2⟩ := info_parts Try.infoU8
  obtain ⟨is, his, hs0, hs1, hs2⟩ := info_parts Try.infoStr
  have hlm : l.length ≤ 4096 := by rw [hl]; exact Nat.le_trans (Nat.mul_le_mul hW2 hH) (by decide)
  have HL := Lib.hid hl
  have HR := Lib.hid hr
  obtain ⟨hp4, hp5, hg0, hx0⟩ := makeStart w 26 9
  have HS : Hid (Rowed w w.heap.size (w.heap.size + 1 + 1) 26 9 W l 0 _) := ⟨hx0, Nat.le_refl _, by omega, by omega, hp4, _, hp5, hg0⟩
  clear hl hr hp4 hp5 hg0 hx0
  go_enter Try.func36, Try.ntmps36
  go_wp2
  obtain ⟨p4, hp4⟩ : ∃ p4, p4 = w.heap.size := ⟨_, rfl⟩
  obtain ⟨p5, hp5⟩ : ∃ p5, p5 = w.heap.size + 1 + 1 := ⟨_, rfl⟩
  rw [← hp5] at HS ⊢
  rw [← hp4] at HS ⊢
  generalize ((w.alloc (.cells #[.slice none 0 0] 26)).alloc (.cells #[] 9)).alloc (.cells #[.slice (some ⟨p4 + 1, 0, none⟩) 0 0] 26) = W0 at HS ⊢
  clear hp4 hp5
  go_loopw [6, 7, 8, 9] (fun f _ _ _ wr => ∃ y F : Nat, y ≤ H ∧ Hid (F = y * W) ∧ f = .int .i64 F ∧ Hid (Rowed w p4 p5 26 9 W l y wr)) (fun f _ _ _ _ => l.length - (intOf f).toNat)
  case atStart => exact ⟨0, 0, Nat.zero_le _, by simp [Hid], rfl, HS⟩
  case round =>
    obtain ⟨y, F, hy, HF, rfl, HW⟩ := hrel
    obtain ⟨wo, rfl⟩ : ∃ wo : World, wo = wr := ⟨_, rfl⟩
    by_cases hlt : y < H
    · have hrow := rowAt_len W H l y HL.out hlt
      have hFW : F + W ≤ l.length := by
        rw [HF.out, HL.out]
        have := Nat.mul_le_mul_right W hlt
        rw [Nat.succ_mul] at this
        rw [Nat.mul_comm W H]; exact this
      have hlt' : (F : Int) < (l.length : Int) := by omega
      have hg0 := GrowOf.empty (f := Value.int .u8) (lo := wo.heap.size) (e := 5) wo (Nat.le_refl _)
      have hx0 : wo.Ext (wo.alloc (.cells #[] 5)) := by repeat (first | exact World.Ext.refl _ | exact ⟨_, rfl⟩ | assumption | refine World.Ext.over ?_ _ | refine World.Ext.drewN ?_ _ | refine World.Ext.drew ?_ | refine World.Ext.alloc ?_ _ | refine World.Ext.setCell ?_ (by simp) _)
      have HG0 := Lib.hid hg0
      have HX0 := Lib.hid hx0
      clear hg0 hx0
      go_wp2
      go_loopw [7, 8, 9] (fun v i _ w2 => ∃ x : Nat, x ≤ W ∧ i = .int .i64 x ∧ Hid (wo.Ext w2) ∧ Hid (GrowOf (Value.int .u8) wo.heap.size 5 w2 v (((l.drop F).take x).map byteOf))) (fun _ i _ _ => W - (intOf i).toNat)
      case atStart => exact ⟨0, Nat.zero_le _, rfl, HX0, HG0⟩
      case round =>
        obtain ⟨x, hx, rfl, HX, HG⟩ := hrel
        by_cases hltx : x < W
        · obtain ⟨b, o, rfl, hc⟩ := ((RowOf.ext HR.out HW.out.ext).ext HX.out) (F + x) (by omega)
          have hlen : (((l.drop F).take x).map byteOf).length = x := by simp; omega
          have hown := HG.out
          have hbyte := row_bytes l F x (by omega)
          have hd0 : (0 : Int) ≤ (F : Int) + (x : Int) := by omega
          have hd1 : (F : Int) + (x : Int) < (l.length : Int) := by omega
          have hltx' : (x : Int) < (W : Int) := by omega
          have HLEN := Lib.hid hlen
          unfold GrowOf at hown
          rw [hlen] at hown
          have hlx : x + 1 ≤ maxLen := by unfold maxLen; omega
          have hlb : (x + 1) * 1 ≤ 140737488355328 := by omega
          have HLX := Lib.hid hlx
          have HLB := Lib.hid hlb
          have hle : ∀ o : Obj, wo.heap.size ≤ (wr.alloc o).heap.size := fun o => (HX.out.alloc o).size
          have hnext : ∀ (o : Obj) (v' : Value) (w1 : World), (wr.alloc o).grownBy w1 u7.ownBlock → w1.ownsRow wo.heap.size 5 1 v' (x + 1) ((((l.drop F).take x).map byteOf).map (Value.int .u8) ++ [Value.int .u8 (byteOf (l.getD (F + x) false))]) →
              wo.Ext w1 ∧ GrowOf (Value.int .u8) wo.heap.size 5 w1 v' (((l.drop F).take (x + 1)).map byteOf) := fun o v' w1 hgrow hown' => by
            refine ⟨HG.out.pushExt HX.out hgrow, ?_⟩
            rw [← hbyte]
            exact GrowOf.push (by rw [hlen]; exact hown')
          have HNEXT := Lib.hid hnext
          have HLE := Lib.hid hle
          clear hlx hlb hlen hbyte hnext hle
          cases hv : l.getD (F + x) false
          · rw [hv] at hc HNEXT
            clear hv
            go_wp2_with (at_builtin; refine wpList_append_own _ rfl _ _ 22 rfl wo.heap.size 5 iu (.int .u8 0) 1 1 Try.underlying22 hiu hu0 hu1 hu2 rfl (by decide) _ _ _ rfl (hown.alloc _) ⟨wr.heap.size, 0, none⟩ 1 1 [.int .u8 46] rfl rfl (cell_one_new _ _ _) (by simp [Value.oneCell']) HLX.out HLB.out (HLE.out _) (fun v' w1 hown' hgrow _ => ?_))
            obtain ⟨hx1, hg1⟩ := HNEXT.out _ _ _ hgrow hown'
            have HX1 := Lib.hid hx1
            have HG1 := Lib.hid hg1
            clear hx1 hg1 hgrow hown' hown hc
            go_wp2
            go_roundw
            case rel => exact ⟨x + 1, by omega, by go_num, HX1, HG1⟩
            case measure => simp [intOf]; omega
          · rw [hv] at hc HNEXT
            clear hv
            go_wp2_with (at_builtin; refine wpList_append_own _ rfl _ _ 22 rfl wo.heap.size 5 iu (.int .u8 0) 1 1 Try.underlying22 hiu hu0 hu1 hu2 rfl (by decide) _ _ _ rfl (hown.alloc _) ⟨wr.heap.size, 0, none⟩ 1 1 [.int .u8 35] rfl rfl (cell_one_new _ _ _) (by simp [Value.oneCell']) HLX.out HLB.out (HLE.out _) (fun v' w1 hown' hgrow _ => ?_))
            obtain ⟨hx1, hg1⟩ := HNEXT.out _ _ _ hgrow hown'
            have HX1 := Lib.hid hx1
            have HG1 := Lib.hid hg1
            clear hx1 hg1 hgrow hown' hown hc
            go_wp2
            go_roundw
            case rel => exact ⟨x + 1, by omega, by go_num, HX1, HG1⟩
            case measure => simp [intOf]; omega
        · have : x = W := by omega
          subst this
          have hbl : (((l.drop F).take x).map byteOf).length = x := by simp; omega
          obtain ⟨g, cap, rfl, hg1, hg2, hcell⟩ := HG.out.some (by omega)
          rw [hbl] at hcell ⊢
          have hcv := run_convert_bytes_arg (P := Try.prog) wr 22 5 Try.underlying22 Try.underlying5 g 0 x cap (((l.drop F).take x).map byteOf) hbl
            (by intro i hi; rw [Nat.zero_add]; exact hcell 0 i hi) 9 Try.underlying9
          have hstr : strOfNums (((l.drop F).take x).map byteOf) = rowStr (rowAt x l y) := by rw [HF.out]; rfl
          rw [hstr] at hcv
          have hM := HW.out.move HX.out
          obtain ⟨v, hv, hgv⟩ := hM.str
          have hown := hgv
          unfold GrowOf at hown
          rw [picRows_len] at hown
          have hy1 : y + 1 ≤ maxLen := by unfold maxLen; omega
          have hy2 : (y + 1) * 16 ≤ 140737488355328 := by omega
          have hnext : ∀ (o : Obj) (v' : Value) (w1 : World), (wr.alloc o).grownBy w1 v.ownBlock → w1.ownsRow w.heap.size 9 1 v' (y + 1) ((picRows x y l).map Value.string ++ [Value.string (rowStr (rowAt x l y))]) →
              (∃ a1 c1, v' = .slice a1 (y + 1) c1) ∧ (w1.cell? ⟨p5, 0, none⟩ = some v ∧ w1.frozen? ⟨p5, 0, none⟩ = false) ∧ Rowed w p4 p5 26 9 x l (y + 1) (w1.setCell ⟨p5, 0, none⟩ v') := fun o v' w1 hgrow hown' => by
            have h5 := (hv.ext ((World.Ext.refl _).alloc o)).grown hgrow (hgv.ne hv (by decide))
            have hfm : ∃ a1 c1, v' = .slice a1 (y + 1) c1 := by
              obtain ⟨a1, c1, h1, _⟩ := GrowOf.form (f := Value.string) (xs := picRows x y l ++ [rowStr (rowAt x l y)]) (GrowOf.push (by rw [picRows_len]; exact hown'))
              exact ⟨a1, c1, by rw [h1]; simp [picRows_len]⟩
            exact ⟨hfm, ⟨h5.cell, h5.free⟩, hM.next (by decide) hv hgv hgrow (by rw [picRows_len]; exact hown')⟩
          have hle : ∀ o : Obj, w.heap.size ≤ (wr.alloc o).heap.size := fun o => (hM.ext.alloc o).size
          have hc5 := hv.cell
          have HNEXT := Lib.hid hnext
          have HLE := Lib.hid hle
          have HY1 := Lib.hid hy1
          have HY2 := Lib.hid hy2
          have HMF : Hid (F + x = (y + 1) * x) := by show _ = _; rw [HF.out, Nat.succ_mul]
          clear hnext hle hy1 hy2 hM hv hgv hcell hbl hg1 hg2 hrow
          generalize rowStr (rowAt x l y) = st at *
          go_wp2_with ((at_builtin; refine wpList_append_own _ rfl _ _ 24 rfl w.heap.size 9 is (.string ByteArray.empty) 1 16 Try.underlying24 his hs0 hs1 hs2 rfl (by decide) _ _ _ rfl (hown.alloc _) ⟨wr.heap.size, 0, none⟩ 1 1 [.string st] rfl rfl (cell_one_new _ _ _) (by simp [Value.oneCell']) HY1.out HY2.out (HLE.out _) (fun v' w1 hown' hgrow _ => ?_)); obtain ⟨⟨a1, c1, rfl⟩, ⟨hc6, hf6⟩, hR⟩ := HNEXT.out _ _ _ hgrow hown'; have HRN := Lib.hid hR; clear hR hown' hgrow hc5)
          go_roundw
          case rel => exact ⟨y + 1, F + x, by omega, HMF, by go_num, HRN⟩
          case measure => simp [intOf]; omega
    · have : y = H := by omega
      subst this
      have hF : F = l.length := by rw [HF.out, HL.out, Nat.mul_comm]
      subst hF
      obtain ⟨v, hv, hgv⟩ := HW.out.str
      obtain ⟨a', c', rfl, _⟩ := hgv.form
      rw [picRows_len] at *
      have hc5 := hv.cell
      have hc4 := HW.out.res.cell
      have hf4 := HW.out.res.free
      have hres := HW.out.res
      have hx4 := HW.out.ext.setCell (p := ⟨p4, 0, none⟩) HW.out.le4 (.slice a' y c')
      have ho4 := (hgv.setCell (a := ⟨p4, 0, none⟩) (hgv.ne hres (by decide)) (.slice a' y c')).own ByteArray.empty
      have hr4 := (hres.set (.slice a' y c')).cell
      have HX4 := Lib.hid hx4
      have HO4 := Lib.hid ho4
      clear hx4 ho4 hv hgv hres
      go_wp2
      exact bodyPost_ret (v := .agg #[.slice a' y c']) (by simp [results, Try.results36, go_sem, hr4]) rfl ⟨a', c', rfl, HX4.out, HO4.out⟩
end Go.Proofs.Ytelaoimcaidoiaa
namespace Go.Proofs.Ytelaoimcaidoiaa
open Go.RowKit
set_option maxHeartbeats 400000 in
theorem in_any (n lo hi : Int) (w : World) (t : Bool) (ht : inB n lo hi = t) :
    Calls Try.prog 44 #[.int .i64 n, .int .i64 lo, .int .i64 hi] w fun e w' => e = .returned (.bool t) ∧ w.Ext w' := by
  subst ht
  by_cases h1 : lo ≤ n <;> by_cases h2 : n ≤ hi
  all_goals
    go_enter Try.func44, Try.ntmps44
    go_wp2
    go_ret
    exact ⟨by simp [inB, h1, h2], .refl _⟩
def sizeB (x y : Int) : Bool := inB x 1 16 && inB y 1 16
set_option maxHeartbeats 400000 in
theorem sizeOk_any (x y : Int) (w : World) (t : Bool) (ht : sizeB x y = t) :
    Calls Try.prog 37 #[.int .i64 x, .int .i64 y] w fun e w' => e = .returned (.bool t) ∧ w.Ext w' := by
  subst ht
  go_enter Try.func37, Try.ntmps37
  go_wp2_with (go_at_call 44; refine (in_any _ _ _ _ _ rfl).mono ?_; rintro e w' ⟨rfl, x1, rfl⟩)
  all_goals
    go_ret
    refine ⟨by simp [sizeB, *], ?_⟩
    repeat (first | exact World.Ext.refl _ | exact ⟨_, rfl⟩ | assumption | refine World.Ext.over ?_ _ | refine World.Ext.drewN ?_ _ | refine World.Ext.drew ?_ | refine World.Ext.alloc ?_ _ | refine World.Ext.setCell ?_ (by simp) _)
/-- A call of function 'f' enters it. -/
def Enters (f : Nat) : Prop := ∀ args w, (callFunc f args).run Try.prog w = .ok (.enter f args) w
theorem enters_of {f : Nat} {fn : Func} (hf : Try.prog.funcs[f]? = some fn) (h1 : (fn.name == "runtime.NumGoroutine") = false) (h2 : fn.body.isNone = false) : Enters f := by
  intro args w
  generalize Try.prog = P at *
  have h1' : ¬ fn.name = "runtime.NumGoroutine" := by simpa using h1
  have h2' : ¬ fn.body = none := by intro e; rw [e] at h2; cases h2
  simp [callFunc, program, Sem.run, hf, h1', h2', Sem.run_bind, Result.andThen, Sem.run_pure]
/-- The place of the first element that meets a condition, -1 of none. -/
def idxP {α : Type} (p : α → Bool) (xs : List α) : Int := match xs.findIdx? p with | some i => i | none => -1
theorem idxP_at {α : Type} {p : α → Bool} {xs : List α} {d : α} {k : Nat} (hk : k < xs.length) (h : ∀ i, i < k → p (xs.getD i d) = false) (hp : p (xs.getD k d) = true) : idxP p xs = k := by
  have e : xs.findIdx? p = some k := by
    rw [List.findIdx?_eq_some_iff_getElem]
    refine ⟨hk, by simpa [List.getD_eq_getElem?_getD, hk] using hp, fun j hj => ?_⟩
    have := h j hj
    have hj' : j < xs.length := by omega
    simpa [List.getD_eq_getElem?_getD, hj'] using this
  simp [idxP, e]
theorem idxP_none {α : Type} {p : α → Bool} {xs : List α} {d : α} (h : ∀ i, i < xs.length → p (xs.getD i d) = false) : idxP p xs = -1 := by
  have e : xs.findIdx? p = none := by
    rw [List.findIdx?_eq_none_iff]
    intro x hx
    obtain ⟨i, hi, rfl⟩ := List.getElem_of_mem hx
    simpa [List.getD_eq_getElem?_getD, hi] using h i hi
  simp [idxP, e]
theorem idxP_any {α : Type} (p : α → Bool) (xs : List α) : decide (0 ≤ idxP p xs) = xs.any p := by
  unfold idxP
  cases h : xs.findIdx? p with
  | none =>
    rw [List.findIdx?_eq_none_iff] at h
    rw [Bool.eq_iff_iff]
    simp
    exact h
  | some i =>
    rw [List.findIdx?_eq_some_iff_getElem] at h
    obtain ⟨hi, hp, _⟩ := h
    have : xs.any p = true := List.any_eq_true.2 ⟨_, List.getElem_mem hi, hp⟩
    rw [this]
    simp
theorem idxP_lo {α : Type} (p : α → Bool) (xs : List α) : -1 ≤ idxP p xs := by
  unfold idxP; split <;> omega
def rowBad (width : Nat) (most : Int) (r : List Int) : Bool := decide (r.length ≠ width) || r.any fun n => !inB n 0 most
theorem rowBad_not (width : Nat) (most : Int) (r : List Int) : rowBad width most r = !rowOk width most r := by
  unfold rowBad rowOk
  rw [Bool.not_and, List.not_all_eq_any_not]
  simp
end Go.Proofs.Ytelaoimcaidoiaa
namespace Go.Proofs.Ytelaoimcaidoiaa
open Go.RowKit
theorem Try.infoBool' : (Try.prog.info? 4).map (fun i => (i.zero, i.size, i.bytes)) = some (some (.bool false), 1, 1) := by kernel_rfl
/-- The first elements of a block; there may be room behind them. -/
def PxOf (w : World) (g : Nat) (l : List Bool) : Prop := ∃ cur : Array Value, w.heap[g]? = some (.cells cur 4 (0, 0)) ∧ l.length ≤ cur.size ∧ cur.toList.take l.length = l.map Value.bool
section
variable {w w' : World} {g : Nat} {l : List Bool}
theorem PxOf.of (h : BlkOf Value.bool w g 4 l) : PxOf w g l := ⟨_, h, by simp, by show (l.map Value.bool).take l.length = l.map Value.bool; rw [List.take_of_length_le (by simp)]⟩
theorem PxOf.lt (h : PxOf w g l) : g < w.heap.size := by
  obtain ⟨_, h, _⟩ := h
  exact (Array.getElem?_eq_some_iff.1 h).1
theorem PxOf.keep (h : PxOf w g l) (hk : w'.heap[g]? = w.heap[g]?) : PxOf w' g l := by
  obtain ⟨c, h, r⟩ := h
  exact ⟨c, by rw [hk, h], r⟩
theorem PxOf.ext (h : PxOf w g l) (hx : w.Ext w') : PxOf w' g l := h.keep (hx.block h.lt)
theorem PxOf.free (h : PxOf w g l) (i : Nat) : w.frozen? ⟨g, i, none⟩ = false := by
  obtain ⟨_, h, _⟩ := h
  simp [World.frozen?, h]
theorem PxOf.cell (h : PxOf w g l) (d : Bool) {i : Nat} (hi : i < l.length) : w.cell? ⟨g, i, none⟩ = some (.bool (l.getD i d)) := by
  obtain ⟨cur, hh, hs, ht⟩ := h
  have e1 : cur.toList[i]? = some (.bool (l.getD i d)) := by
    have : (cur.toList.take l.length)[i]? = (l.map Value.bool)[i]? := by rw [ht]
    rw [List.getElem?_take, if_pos hi, List.getElem?_map, List.getElem?_eq_getElem hi] at this
    rw [this, List.getD_eq_getElem?_getD, List.getElem?_eq_getElem hi]
    rfl
  simp only [World.cell?, hh]
  simpa using e1
theorem PxOf.set (h : PxOf w g l) {i : Nat} (hi : i < l.length) (v : Bool) : PxOf (w.setCell ⟨g, i, none⟩ (.bool v)) g (l.set i v) := by
  obtain ⟨cur, hh, hs, ht⟩ := h
  have hic : i < cur.size := by omega
  refine ⟨cur.set i (.bool v) hic, ?_, by simpa using hs, ?_⟩
  · unfold World.setCell
    simp only [Array.getElem?_modify, if_true, hh]
    simp [Array.setIfInBounds, hic]
  · rw [List.length_set, Array.toList_set, List.take_set, ht, List.map_set]
end
/-- An image lies in block b, its pixels in block ab. -/
structure Img (w : World) (b ab W H : Nat) (l : List Bool) : Prop where
  str : ∃ cap, w.heap[b]? = some (.cells #[.int .i64 W, .int .i64 H, .slice (some ⟨ab, 0, none⟩) l.length cap] 76 (0, 0))
  px : PxOf w ab l
  len : l.length = W * H
section
variable {w w' : World} {b ab W H : Nat} {l : List Bool}
theorem Img.c0 (h : Img w b ab W H l) : w.cell? ⟨b, 0, none⟩ = some (.int .i64 W) := by obtain ⟨_, h⟩ := h.str; simp [World.cell?, h]
theorem Img.c1 (h : Img w b ab W H l) : w.cell? ⟨b, 1, none⟩ = some (.int .i64 H) := by obtain ⟨_, h⟩ := h.str; simp [World.cell?, h]
theorem Img.c2 (h : Img w b ab W H l) : ∃ cap, w.cell? ⟨b, 2, none⟩ = some (.slice (some ⟨ab, 0, none⟩) l.length cap) := by obtain ⟨c, h⟩ := h.str; exact ⟨c, by simp [World.cell?, h]⟩
theorem Img.lt (h : Img w b ab W H l) : b < w.heap.size := by obtain ⟨_, h⟩ := h.str; exact (Array.getElem?_eq_some_iff.1 h).1
theorem Img.ne (h : Img w b ab W H l) : b ≠ ab := by
  intro e
  obtain ⟨_, h1⟩ := h.str
  obtain ⟨_, h2, _⟩ := h.px
  rw [e, h2] at h1
  simp at h1
theorem Img.keep (h : Img w b ab W H l) (h1 : w'.heap[b]? = w.heap[b]?) (h2 : w'.heap[ab]? = w.heap[ab]?) : Img w' b ab W H l := ⟨let ⟨c, h⟩ := h.str; ⟨c, by rw [h1, h]⟩, h.px.keep h2, h.len⟩
theorem Img.ext (h : Img w b ab W H l) (hx : w.Ext w') : Img w' b ab W H l := h.keep (hx.block h.lt) (hx.block h.px.lt)
theorem Img.set (h : Img w b ab W H l) {k : Nat} (hk : k < l.length) (v : Bool) : Img (w.setCell ⟨ab, k, none⟩ (.bool v)) b ab W H (l.set k v) :=
  ⟨let ⟨c, h1⟩ := h.str; ⟨c, by rw [Below.heap_setCell _ _ _ _ h.ne, h1]; simp⟩, h.px.set hk v, by simp [h.len]⟩
end
/-- The pixel of an image at a place; outside all are white. -/
def pxl (W H : Nat) (l : List Bool) (x y : Int) : Bool := inB x 0 ((W : Int) - 1) && inB y 0 ((H : Int) - 1) && l.getD (y * W + x).toNat false
def hasB (W H : Nat) (x y : Int) : Bool := inB x 0 ((W : Int) - 1) && inB y 0 ((H : Int) - 1)
theorem hasB_true {W H : Nat} {x y : Int} : hasB W H x y = true ↔ 0 ≤ x ∧ x < W ∧ 0 ≤ y ∧ y < H := by
  unfold hasB; rw [Bool.and_eq_true, inB_true, inB_true]; omega
theorem place_lt {W H : Nat} {x y : Int} (h0 : 0 ≤ x) (h1 : x < W) (h2 : 0 ≤ y) (h3 : y < H) : 0 ≤ y * W ∧ 0 ≤ y * W + x ∧ y * W + x < (W * H : Nat) := by
  have b1 : 0 ≤ y * W := Int.mul_nonneg h2 (by omega)
  have b2 : y * W ≤ ((H : Int) - 1) * W := Int.mul_le_mul_of_nonneg_right (by omega) (by omega)
  have e : ((H : Int) - 1) * W = ((W * H : Nat) : Int) - W := by rw [Int.sub_mul, Int.natCast_mul, Int.mul_comm (H : Int) W]; omega
  omega
set_option maxHeartbeats 400000 in
theorem has_any (b ab W H : Nat) (l : List Bool) (x y : Int) (w : World) (hW : W ≤ 64) (hH : H ≤ 64) (hI : Img w b ab W H l) (t : Bool) (ht : hasB W H x y = t) :
    Calls Try.prog 78 #[.pointer (some ⟨b, 0, none⟩), .int .i64 x, .int .i64 y] w fun e w' => e = .returned (.bool t) ∧ w.Ext w' := by
  subst ht
  have h0 := hI.c0
  have h1 := hI.c1
  clear hI
  go_enter Try.func78, Try.ntmps78
  go_wp2_with (go_at_call 44; refine (in_any _ _ _ _ _ rfl).mono ?_; rintro e w' ⟨rfl, x1, rfl⟩)
  all_goals
    go_ret
    refine ⟨by simp [hasB, *], ?_⟩
    repeat (first | exact World.Ext.refl _ | exact ⟨_, rfl⟩ | assumption | refine World.Ext.over ?_ _ | refine World.Ext.drewN ?_ _ | refine World.Ext.drew ?_ | refine World.Ext.alloc ?_ _ | refine World.Ext.setCell ?_ (by simp) _)
set_option maxHeartbeats 800000 in
theorem get_any (b ab W H : Nat) (l : List Bool) (x y : Int) (w : World) (hW : W ≤ 64) (hH : H ≤ 64) (hI : Img w b ab W H l) (t : Bool) (ht : pxl W H l x y = t) :
    Calls Try.prog 57 #[.pointer (some ⟨b, 0, none⟩), .int .i64 x, .int .i64 y] w fun e w' => e = .returned (.bool t) ∧ w.Ext w' := by
  have h0 := hI.c0
  obtain ⟨cap2, h2⟩ := hI.c2
  have HI := Lib.hid hI
  cases hd : hasB W H x y
  · have ht' : t = false := by rw [← ht]; unfold pxl; unfold hasB at hd; rw [hd]; rfl
    subst ht'
    clear ht hI
    have HD := Lib.hid hd
    clear hd
    go_enter Try.func57, Try.ntmps57
    go_wp2
    refine wp_region_over_lit (by kernel_rfl) (by kernel_rfl) ?_
    repeat (go_big_quiet_step ((go_at_call 78; exact Calls.over_of (has_any b ab W H l x y _ hW hH (HI.out.ext ⟨_, rfl⟩) _ HD.out))))
    refine wpQuiet_nil ?_
    rintro _ ⟨x1, rfl⟩
    go_wp2
    go_ret
    exact ⟨rfl, ⟨_, rfl⟩⟩
  · obtain ⟨hx0, hx1, hy0, hy1⟩ := hasB_true.1 hd
    obtain ⟨b0, b1, b2⟩ := place_lt hx0 hx1 hy0 hy1
    have hlen := hI.len
    have b3 : y * W + x < (l.length : Int) := by rw [hlen]; exact b2
    have b4 : W * H ≤ 64 * 64 := Nat.mul_le_mul hW hH
    have b5 : (l.length : Int) ≤ 4096 := by rw [hlen]; omega
    have b6 : y * W ≤ 4096 := by omega
    have hcell := hI.px.cell false (i := (y * W + x).toNat) (by omega)
    have ht' : l.getD (y * W + x).toNat false = t := by rw [← ht]; unfold pxl; unfold hasB at hd; rw [hd]; rfl
    rw [ht'] at hcell
    clear ht ht' hI hlen b2 b4
    have HD := Lib.hid hd
    clear hd
    go_enter Try.func57, Try.ntmps57
    go_wp2
    refine wp_region_over_lit (by kernel_rfl) (by kernel_rfl) ?_
    repeat (go_big_quiet_step ((go_at_call 78; exact Calls.over_of (has_any b ab W H l x y _ hW hH (HI.out.ext ⟨_, rfl⟩) _ HD.out))))
    refine wpQuiet_nil ?_
    rintro _ ⟨x1, rfl⟩
    go_wp2
    go_ret
    exact ⟨rfl, ⟨_, rfl⟩⟩
/-- Behind a store into the pixels. -/
def SetRet (w : World) (b ab W H : Nat) (l : List Bool) (e : Ending) (w' : World) : Prop := e = .returned (.tuple #[]) ∧ Wrote (fun k => k = ab) w w' ∧ Img w' b ab W H l
set_option maxHeartbeats 800000 in
theorem set_any (b ab W H : Nat) (l : List Bool) (x y : Int) (v : Bool) (w : World) (hW : W ≤ 64) (hH : H ≤ 64) (hI : Img w b ab W H l) (hx0 : 0 ≤ x) (hx1 : x < W) (hy0 : 0 ≤ y) (hy1 : y < H) :
    Calls Try.prog 39 #[.pointer (some ⟨b, 0, none⟩), .int .i64 x, .int .i64 y, .bool v] w (SetRet w b ab W H (l.set (y * W + x).toNat v)) := by
  have h0 := hI.c0
  obtain ⟨cap2, h2⟩ := hI.c2
  obtain ⟨b0, b1, b2⟩ := place_lt hx0 hx1 hy0 hy1
  have hlen := hI.len
  have b3 : y * W + x < (l.length : Int) := by rw [hlen]; exact b2
  have b4 : W * H ≤ 64 * 64 := Nat.mul_le_mul hW hH
  have b5 : (l.length : Int) ≤ 4096 := by rw [hlen]; omega
  have b6 : y * W ≤ 4096 := by omega
  have hcell := hI.px.cell false (i := (y * W + x).toNat) (by omega)
  have hfree := hI.px.free (y * W + x).toNat
  have hs := fun x1 => (hI.ext ⟨x1, rfl⟩ : Img (w.over x1) b ab W H l).set (show (y * W + x).toNat < l.length by omega) v
  have hw := fun x1 => ((World.Ext.wrote ⟨x1, rfl⟩ (fun k => k = ab)) : Wrote _ w (w.over x1)).setCell (p := ⟨ab, (y * W + x).toNat, none⟩) rfl (.bool v)
  have hab := hI.px.lt
  have HS := Lib.hid hs
  have HW := Lib.hid hw
  clear hI hlen b2 b4 hs hw
  generalize l.getD (y * W + x).toNat false = old at hcell
  go_enter Try.func39, Try.ntmps39
  go_wp2_with fail
  refine wp_region_over_tail 14 (by kernel_rfl) (by kernel_rfl) ?_; simp only [List.take_succ_cons, List.take_zero, List.drop_succ_cons, List.drop_zero]; (repeat (go_big_quiet_step (fail))); refine wpQuiet_nil ?_; rintro _ ⟨x1, rfl⟩
  go_wp2
  go_end0
  exact ⟨rfl, HW.out _, HS.out _⟩
/-- A new image is returned. -/
def ImgRet (w : World) (W H : Nat) (l : List Bool) (e : Ending) (w' : World) : Prop := ∃ b ab, e = .returned (.pointer (some ⟨b, 0, none⟩)) ∧ w.Ext w' ∧ Img w' b ab W H l ∧ w.heap.size ≤ b ∧ w.heap.size ≤ ab
set_option maxRecDepth 5000 in
set_option maxHeartbeats 800000 in
theorem blank_any (W H : Nat) (w : World) (hW : W ≤ 64) (hH : H ≤ 64) :
    Calls Try.prog 38 #[.int .i64 W, .int .i64 H] w (ImgRet w W H (List.replicate (W * H) false)) := by
  obtain ⟨i0, hi, hz0, hz1, hz2⟩ := info_parts Try.infoBool'
  have hm : W * H ≤ 4096 := Nat.mul_le_mul hW hH
  have c1 : i0.bytes * (W * H) ≤ 281474976710656 := by rw [hz2]; omega
  have c2 : W * H ≤ maxLen := by unfold maxLen; omega
  have hmi : (W : Int) * (H : Int) = ((W * H : Nat) : Int) := by rw [Int.natCast_mul]
  have hmb : (W : Int) * (H : Int) ≤ 4096 := by rw [hmi]; omega
  have hmb0 : 0 ≤ (W : Int) * (H : Int) := by rw [hmi]; omega
  have C1 := Lib.hid c1
  have C2 := Lib.hid c2
  have HMI := Lib.hid hmi
  clear c1 c2 hmi hm
  go_enter Try.func38, Try.ntmps38
  go_wp2_with (at_make; refine wpList_make_full _ rfl _ _ 69 rfl 0 4 i0 (.bool false) 1 Try.underlying69 hi hz0 hz1 .i64 .i64 _ _ (W * H) rfl rfl HMI.out HMI.out C1.out C2.out (Nat.zero_le _) (fun w1 hown hgrow => ?_))
  have hb0 := blk_of_made (f := Value.bool) false rfl hown
  have hx0 := World.Ext.made hgrow
  have hs := hx0.size
  have hlt := hb0.lt
  go_ret
  refine ⟨_, w.heap.size, rfl, hx0.alloc _, ⟨⟨W * H, ?_⟩, PxOf.of (hb0.ext ((World.Ext.refl _).alloc _)), by simp⟩, hs, Nat.le_refl _⟩
  show (w1.heap.push _)[w1.heap.size]? = _
  simp
set_option maxHeartbeats 800000 in
theorem each_any (b f W H : Nat) (caps : Array Value) (I : Nat → World → Prop) (w : World) (hW : W ≤ 64) (hH : H ≤ 64) (he : Enters f)
    (hI : ∀ k w', I k w' → w'.cell? ⟨b, 0, none⟩ = some (.int .i64 W) ∧ w'.cell? ⟨b, 1, none⟩ = some (.int .i64 H))
    (hf : ∀ (x y : Nat) w', x < W → y < H → I (y * W + x) w' → Calls Try.prog f (#[.int .i64 (x : Nat), .int .i64 (y : Nat)] ++ caps) w' fun e w'' => e = .returned (.tuple #[]) ∧ I (y * W + x + 1) w'')
    (h0 : I 0 w) :
    Calls Try.prog 41 #[.pointer (some ⟨b, 0, none⟩), .func (.func f) #[] caps] w fun e w' => e = .returned (.tuple #[]) ∧ I (H * W) w' := by
  have HF := Lib.hid hf
  have H0 := Lib.hid h0
  have HI := Lib.hid hI
  obtain ⟨hw0, hw1⟩ := hI 0 w h0
  unfold Enters at he
  clear hf h0 hI
  go_enter Try.func41, Try.ntmps41
  go_wp2
  go_loopw [4, 5, 10] (fun _ _ i wr => ∃ y : Nat, y ≤ H ∧ i = .int .i64 y ∧ Hid (I (y * W) wr)) (fun _ _ i _ => H - (intOf i).toNat)
  case atStart => exact ⟨0, Nat.zero_le _, rfl, by rw [Nat.zero_mul]; exact H0.out⟩
  case round =>
    obtain ⟨y, hy, rfl, HY⟩ := hrel
    obtain ⟨wo, rfl⟩ : ∃ wo : World, wo = wr := ⟨_, rfl⟩
    obtain ⟨hc0, hc1⟩ := HI.out _ _ HY.out
    clear hw0 hw1
    by_cases hlt : y < H
    · go_wp2
      go_loopw [5, 17] (fun _ i w2 => ∃ x : Nat, x ≤ W ∧ i = .int .i64 x ∧ Hid (I (y * W + x) w2)) (fun _ i _ => W - (intOf i).toNat)
      case atStart => exact ⟨0, Nat.zero_le _, rfl, HY⟩
      case round =>
        obtain ⟨x, hx, rfl, HX⟩ := hrel
        by_cases hltx : x < W
        · have HC := Lib.hid (HF.out x y _ hltx hlt HX.out)
          go_wp2_with fail
          refine HC.out.mono ?_
          rintro e w3 ⟨rfl, h3⟩
          have H3 := Lib.hid h3
          clear h3
          go_wp2
          go_roundw
          case rel => exact ⟨x + 1, by omega, by go_num, H3.out⟩
          case measure => simp [intOf]; omega
        · have : x = W := by omega
          subst this
          go_wp2
          go_roundw
          case rel => exact ⟨y + 1, by omega, by go_num, by rw [Nat.succ_mul]; exact HX.out⟩
          case measure => simp [intOf]; omega
    · have : y = H := by omega
      subst this
      go_wp2
      go_end0
      exact ⟨rfl, HY.out⟩
/-- The pixels of a picture of W by H, told by a function. -/
def mkl (W H : Nat) (g : Nat → Nat → Bool) : List Bool := (List.range (H * W)).map fun k => g (k % W) (k / W)
theorem mkl_len (W H : Nat) (g : Nat → Nat → Bool) : (mkl W H g).length = H * W := by simp [mkl]
theorem mkl_at (W H : Nat) (g : Nat → Nat → Bool) (x y : Nat) (hx : x < W) (hy : y < H) : (mkl W H g).getD (y * W + x) false = g x y := by
  have hk : y * W + x < H * W := by
    have := Nat.mul_le_mul_right W hy
    rw [Nat.succ_mul] at this
    omega
  have e1 : (y * W + x) % W = x := by rw [Nat.mul_comm, Nat.mul_add_mod, Nat.mod_eq_of_lt hx]
  have e2 : (y * W + x) / W = y := by
    rw [Nat.mul_comm, Nat.mul_add_div (by omega), Nat.div_eq_of_lt hx]; rfl
  simp [mkl, List.getD_eq_getElem?_getD, hk, e1, e2]
end Go.Proofs.Ytelaoimcaidoiaa
namespace Go.Proofs.Ytelaoimcaidoiaa
open Go.RowKit
theorem pxl_at (W H : Nat) (l : List Bool) (x y : Nat) (hx : x < W) (hy : y < H) : pxl W H l (x : Int) (y : Int) = l.getD (y * W + x) false := by
  have h : hasB W H (x : Int) (y : Int) = true := by rw [hasB_true]; omega
  unfold pxl
  unfold hasB at h
  rw [h, Bool.true_and]
  congr 1
/-- A picture is returned, in new memory. -/
def PicVal (w : World) (rows : List ByteArray) (e : Ending) (w' : World) : Prop :=
  ∃ a c, e = .returned (.agg #[.slice a rows.length c]) ∧ w.Ext w' ∧ OwnOf Value.string ByteArray.empty w.heap.size w'.heap.size w' a rows
theorem toldStart (w : World) (T : TypeId) :
    One ((w.alloc (.cells #[.slice none 0 0] T)).alloc (.cells #[.slice none 0 0] T)) w.heap.size T (.slice none 0 0) ∧
    One ((w.alloc (.cells #[.slice none 0 0] T)).alloc (.cells #[.slice none 0 0] T)) (w.heap.size + 1) T (.slice none 0 0) ∧
    w.Ext ((w.alloc (.cells #[.slice none 0 0] T)).alloc (.cells #[.slice none 0 0] T)) :=
  ⟨(One.new w _ _ _ rfl).ext ((World.Ext.refl _).alloc _), One.new _ _ _ _ (by simp), by repeat (first | exact World.Ext.refl _ | exact ⟨_, rfl⟩ | assumption | refine World.Ext.over ?_ _ | refine World.Ext.drewN ?_ _ | refine World.Ext.drew ?_ | refine World.Ext.alloc ?_ _ | refine World.Ext.setCell ?_ (by simp) _)⟩
theorem GrowOf.nilStart {α : Type} {f : α → Value} (lo : Nat) (e : TypeId) (w : World) : GrowOf f lo e w (.slice none 0 0) ([] : List α) := ⟨rfl, .inl ⟨rfl, rfl⟩⟩
end Go.Proofs.Ytelaoimcaidoiaa
namespace Go.Proofs.Ytelaoimcaidoiaa
open Go.RowKit
theorem flatG_len {α : Type} (W : Nat) : ∀ m : List (List α), (∀ r, r < m.length → (m.getD r []).length = W) → m.flatten.length = m.length * W
  | [], _ => by simp
  | x :: m, h => by
    have h0 : x.length = W := by simpa using h 0 (by simp)
    have ih := flatG_len W m fun r hr => by simpa using h (r + 1) (by simpa using hr)
    rw [List.flatten_cons, List.length_append, ih, h0, List.length_cons, Nat.succ_mul, Nat.add_comm]
theorem flatG_at {α : Type} (d : α) (W : Nat) : ∀ (m : List (List α)) (y x : Nat), (∀ r, r < m.length → (m.getD r []).length = W) → y < m.length → x < W → m.flatten.getD (y * W + x) d = (m.getD y []).getD x d
  | [], y, x, _, h, _ => by simp at h
  | r0 :: m, 0, x, h, _, hx => by
    have h0 : r0.length = W := by simpa using h 0 (by simp)
    rw [List.flatten_cons, List.getD_eq_getElem?_getD, List.getElem?_append_left (by omega)]
    simp [List.getD_eq_getElem?_getD]
  | r0 :: m, y + 1, x, h, hy, hx => by
    have h0 : r0.length = W := by simpa using h 0 (by simp)
    have ih := flatG_at d W m y x (fun r hr => by simpa using h (r + 1) (by simpa using hr)) (by simpa using hy) hx
    have e : (y + 1) * W + x = r0.length + (y * W + x) := by rw [h0, Nat.succ_mul]; omega
    rw [List.flatten_cons, List.getD_eq_getElem?_getD, e, List.getElem?_append_right (by omega), Nat.add_sub_cancel_left, ← List.getD_eq_getElem?_getD, ih]
    simp
theorem byte_eq (s : ByteArray) (x : Nat) (h : x < s.size) (k : UInt8) : (((s[x]'h).toNat : Int) == (k.toNat : Int)) = (s.data.toList.getD x 0 == k) := by
  have h' : x < s.data.toList.length := by simpa using h
  have e : s.data.toList.getD x 0 = s[x] := by
    rw [List.getD_eq_getElem?_getD, List.getElem?_eq_getElem h', Option.getD_some, Array.getElem_toList]
    rfl
  rw [e, Bool.eq_iff_iff, beq_iff_eq, beq_iff_eq]
  constructor
  · intro h2
    exact UInt8.toNat_inj.1 (by omega)
  · intro h2
    rw [h2]
/-- Which pixels of a row are black. -/
def rowBits (s : ByteArray) : List Bool := s.data.toList.map fun b => b == 35
theorem rowBits_len (s : ByteArray) : (rowBits s).length = s.size := by simp [rowBits]
theorem rowBits_at (s : ByteArray) (x : Nat) (h : x < s.size) : (rowBits s).getD x false = (s.data.toList.getD x 0 == 35) := by
  have h' : x < s.data.toList.length := by simpa using h
  unfold rowBits
  rw [List.getD_eq_getElem?_getD, List.getElem?_map, List.getElem?_eq_getElem h', List.getD_eq_getElem?_getD, List.getElem?_eq_getElem h']
  rfl
/-- The pixels of a picture, in reading order. -/
def picL (ss : List ByteArray) : List Bool := (ss.map rowBits).flatten
def picW (ss : List ByteArray) : Nat := (ss.getD 0 ByteArray.empty).size
def pixOk (b : UInt8) : Bool := b == 35 || b == 46
def rowGood (W : Nat) (s : ByteArray) : Bool := decide (s.size = W) && s.data.toList.all pixOk
/-- Is a picture valid? -/
def picOk (ss : List ByteArray) : Bool := inB ss.length 1 16 && inB (picW ss) 1 16 && ss.all (rowGood (picW ss))
/-- A picture has rows of one size. -/
def Even (ss : List ByteArray) : Prop := 0 < ss.length ∧ ∀ y, y < ss.length → (ss.getD y ByteArray.empty).size = picW ss
theorem rowBits_map_at (ss : List ByteArray) (y : Nat) (h : y < ss.length) : (ss.map rowBits).getD y [] = rowBits (ss.getD y ByteArray.empty) := by
  simp [List.getD_eq_getElem?_getD, h]
theorem picL_len {ss : List ByteArray} (h : Even ss) : (picL ss).length = ss.length * picW ss := by
  unfold picL
  rw [flatG_len (picW ss)]
  · simp
  · intro r hr
    have hr' : r < ss.length := by simpa using hr
    rw [rowBits_map_at ss r hr', rowBits_len, h.2 r hr']
theorem picL_at {ss : List ByteArray} (h : Even ss) (x y : Nat) (hx : x < picW ss) (hy : y < ss.length) : (picL ss).getD (y * picW ss + x) false = ((ss.getD y ByteArray.empty).data.toList.getD x 0 == 35) := by
  unfold picL
  rw [flatG_at false (picW ss) _ y x _ (by simpa using hy) hx, rowBits_map_at ss y hy, rowBits_at _ _ (by rw [h.2 y hy]; exact hx)]
  intro r hr
  have hr' : r < ss.length := by simpa using hr
  rw [rowBits_map_at ss r hr', rowBits_len, h.2 r hr']
theorem picOk_spec {ss : List ByteArray} (h : picOk ss = true) : 1 ≤ ss.length ∧ ss.length ≤ 16 ∧ 1 ≤ picW ss ∧ picW ss ≤ 16 ∧ Even ss ∧ ∀ y x, y < ss.length → x < picW ss → pixOk ((ss.getD y ByteArray.empty).data.toList.getD x 0) = true := by
  unfold picOk at h
  rw [Bool.and_eq_true, Bool.and_eq_true, inB_true, inB_true] at h
  obtain ⟨⟨h1, h2⟩, h3⟩ := h
  rw [all_getD (d := ByteArray.empty)] at h3
  have hsz : ∀ y, y < ss.length → (ss.getD y ByteArray.empty).size = picW ss := fun y hy => by
    have := h3 y hy
    unfold rowGood at this
    rw [Bool.and_eq_true, decide_eq_true_eq] at this
    exact this.1
  refine ⟨by omega, by omega, by omega, by omega, ⟨by omega, hsz⟩, fun y x hy hx => ?_⟩
  have := h3 y hy
  unfold rowGood at this
  rw [Bool.and_eq_true, all_getD (d := (0 : UInt8))] at this
  exact this.2 x (by have := hsz y hy; simp at this ⊢; omega)
theorem pxl_out {W H : Nat} {l : List Bool} {x y : Int} (h : hasB W H x y = false) : pxl W H l x y = false := by
  unfold pxl; unfold hasB at h; rw [h]; rfl
end Go.Proofs.Ytelaoimcaidoiaa
namespace Go.Proofs.Ytelaoimcaidoiaa
open Go.RowKit
def picM (ss : List ByteArray) : List Bool := mkl (picW ss) ss.length fun x y => (ss.getD y ByteArray.empty).data.toList.getD x 0 == 35
theorem picM_eq {ss : List ByteArray} (h : Even ss) : picM ss = picL ss := by
  have hl := picL_len h
  apply List.ext_getElem?
  intro k
  have hml : (picM ss).length = ss.length * picW ss := mkl_len _ _ _
  by_cases hk : k < ss.length * picW ss
  · have hW : 0 < picW ss := by
      rcases Nat.eq_zero_or_pos (picW ss) with e | e
      · rw [e] at hk; simp at hk
      · exact e
    have hy : k / picW ss < ss.length := Nat.div_lt_of_lt_mul (by rw [Nat.mul_comm]; exact hk)
    have hx : k % picW ss < picW ss := Nat.mod_lt _ hW
    have e : k / picW ss * picW ss + k % picW ss = k := by rw [Nat.mul_comm]; exact Nat.div_add_mod k _
    have h1 := picL_at h (k % picW ss) (k / picW ss) hx hy
    have h2 := mkl_at (picW ss) ss.length (fun x y => (ss.getD y ByteArray.empty).data.toList.getD x 0 == 35) (k % picW ss) (k / picW ss) hx hy
    rw [e] at h1 h2
    have h3 : (picM ss).getD k false = (picL ss).getD k false := by rw [h1]; exact h2
    rw [List.getD_eq_getElem?_getD, List.getD_eq_getElem?_getD, List.getElem?_eq_getElem (by omega), List.getElem?_eq_getElem (by omega)] at h3
    rw [List.getElem?_eq_getElem (by omega), List.getElem?_eq_getElem (by omega)]
    exact congrArg some h3
  · rw [List.getElem?_eq_none (by omega), List.getElem?_eq_none (by omega)]
/-- A picture is read, if it is valid. -/
def ImgOf (w : World) (ss : List ByteArray) (ok : Bool) (e : Ending) (w' : World) : Prop :=
  if ok then ∃ b ab, e = .returned (.tuple #[.pointer (some ⟨b, 0, none⟩), .bool true]) ∧ w.Ext w' ∧ Img w' b ab (picW ss) ss.length (picL ss) ∧ w.heap.size ≤ b ∧ w.heap.size ≤ ab
  else e = .returned (.tuple #[.pointer none, .bool false]) ∧ w.Ext w'
theorem picOk_nil : picOk [] = false := by simp [picOk, inB]
theorem picOk_size {ss : List ByteArray} (h : sizeB (picW ss) ss.length = false) : picOk ss = false := by
  unfold picOk
  unfold sizeB at h
  rw [Bool.and_comm (inB _ _ _), h]
  rfl
set_option maxRecDepth 5000 in
set_option maxHeartbeats 1600000 in
theorem imageOf_any (a : Option Addr) (c : Nat) (ss : List ByteArray) (w : World) (hn : ss.length ≤ 1048576) (hs : ∀ y, (ss.getD y ByteArray.empty).size ≤ 1048576) (hm : RowS w a ss) (ok : Bool) (hok : picOk ss = ok) :
    Calls Try.prog 16 #[.agg #[.slice a ss.length c]] w (ImgOf w ss ok) := by
  have HM := Lib.hid hm
  have HSZ := Lib.hid hs
  have HOK := Lib.hid hok
  have hn2 : ss.length ≤ 4611686018427387904 := by omega
  by_cases hpos : 0 < ss.length
  · have hpos' : (0 : Int) < (ss.length : Int) := by omega
    have hne : ((ss.length : Int) == 0) = false := by rw [beq_eq_false_iff_ne]; omega
    obtain ⟨b0, o0, rfl, hc0⟩ := hm 0 hpos
    rw [Nat.add_zero] at hc0
    have hblt : b0 < w.heap.size := World.block_lt_of_cell? w _ hc0
    have hW0 := hs 0
    obtain ⟨s0, hs0⟩ : ∃ s0, s0 = ss.getD 0 ByteArray.empty := ⟨_, rfl⟩
    rw [← hs0] at hc0 hW0
    have hW : picW ss = s0.size := by unfold picW; rw [hs0]
    have hWm : s0.size ≤ 4611686018427387904 := by omega
    have HW := Lib.hid hW
    have HPOS := Lib.hid hpos
    clear hm hs hok hpos hs0 hW hn hW0
    cases hsz : sizeB s0.size ss.length
    · have hf : ok = false := by rw [← HOK.out]; exact picOk_size (by rw [HW.out]; exact hsz)
      subst hf
      have HS := Lib.hid hsz
      clear hsz
      go_enter Try.func16, Try.ntmps16
      go_wp2_with fail
      refine wp_region_over_lit (by kernel_rfl) (by kernel_rfl) ?_; (repeat (go_big_quiet_step ((go_at_call 37; exact Calls.over_of (sizeOk_any _ _ _ _ HS.out))))); refine wpQuiet_nil ?_; rintro _ ⟨x1, rfl⟩
      go_wp2
      go_ret2
      refine ⟨rfl, ?_⟩
      repeat (first | exact World.Ext.refl _ | exact ⟨_, rfl⟩ | assumption | refine World.Ext.over ?_ _ | refine World.Ext.drewN ?_ _ | refine World.Ext.drew ?_ | refine World.Ext.alloc ?_ _ | refine World.Ext.setCell ?_ (by simp) _)
    · have HS := Lib.hid hsz
      clear hsz
      go_enter Try.func16, Try.ntmps16
      go_wp2_with fail
      refine wp_region_over_lit (by kernel_rfl) (by kernel_rfl) ?_; (repeat (go_big_quiet_step ((go_at_call 37; exact Calls.over_of (sizeOk_any _ _ _ _ HS.out))))); refine wpQuiet_nil ?_; rintro _ ⟨x1, rfl⟩
      go_wp2_with fail
      refine wp_region_over_tail 8 (by kernel_rfl) (by kernel_rfl) ?_; simp only [List.take_succ_cons, List.take_zero, List.drop_succ_cons, List.drop_zero]; (repeat (go_big_quiet_step (fail))); refine wpQuiet_nil ?_; rintro _ ⟨x1, rfl⟩
      have hWH : s0.size ≤ 16 ∧ ss.length ≤ 16 := by
        have := HS.out
        unfold sizeB at this
        rw [Bool.and_eq_true, inB_true, inB_true] at this
        omega
      have hl64 : s0.size ≤ 64 := by omega
      have hh64 : ss.length ≤ 64 := by omega
      go_wp2_with fail
      refine (blank_any s0.size ss.length _ hl64 hh64).mono ?_
      rintro e w1 ⟨b, ab, rfl, hx1, hi1, hlb, hlab⟩
      have c1 := hx1.cell (a := ⟨w.heap.size, 0, none⟩) (v := .slice (some ⟨b0, o0, none⟩) ss.length c) (by simp [go_sem])
      have hlb2 : w.heap.size ≤ b := by simp at hlb; omega
      have hlab2 : w.heap.size ≤ ab := by simp at hlab; omega
      have X1 : Hid (w.Ext w1) := World.Ext.trans (by repeat (first | exact World.Ext.refl _ | exact ⟨_, rfl⟩ | assumption | refine World.Ext.over ?_ _ | refine World.Ext.drewN ?_ _ | refine World.Ext.drew ?_ | refine World.Ext.alloc ?_ _ | refine World.Ext.setCell ?_ (by simp) _)) hx1
      have HLEN : Hid ((picM ss).length = ss.length * s0.size) := by rw [← HW.out]; exact mkl_len _ _ _
      have HAT : Hid (∀ x y, x < s0.size → y < ss.length → (picM ss).getD (y * s0.size + x) false = ((ss.getD y ByteArray.empty).data.toList.getD x 0 == 35)) := fun x y hx hy => by
        have := mkl_at (picW ss) ss.length (fun x y => (ss.getD y ByteArray.empty).data.toList.getD x 0 == 35) x y (by rw [HW.out]; exact hx) hy
        rw [← HW.out]
        exact this
      have HI : Hid (Wrote (fun j => j = ab) w1 w1 ∧ Img w1 b ab s0.size ss.length (copied false (picM ss) (0 * s0.size))) := ⟨.refl _ _, by rw [Nat.zero_mul, copied_zero, HLEN.out, Nat.mul_comm]; exact hi1⟩
      have HBAD : Hid (∀ y, y < ss.length → rowGood s0.size (ss.getD y ByteArray.empty) = false → ok = false) := fun y hy hr => by
        rw [← HOK.out]
        unfold picOk
        rw [HW.out, all_false hy hr]
        simp
      have HGOOD : Hid ((∀ y, y < ss.length → rowGood s0.size (ss.getD y ByteArray.empty) = true) → ok = true ∧ picM ss = picL ss) := fun h => by
        have h1 : picOk ss = true := by
          unfold picOk
          have := HS.out
          unfold sizeB at this
          rw [HW.out, all_getD.2 h, Bool.and_true, Bool.and_comm]
          exact this
        exact ⟨by rw [← HOK.out, h1], picM_eq (picOk_spec h1).2.2.2.2.1⟩
      clear hx1 hi1 hlb hlab hc0
      generalize picM ss = L at HLEN HAT HI HGOOD
      go_wp2
      clear c1
      go_loopw [5, 6, 7, 36] (fun _ _ _ i wr => ∃ y : Nat, y ≤ ss.length ∧ i = .int .i64 y ∧ Hid (∀ r, r < y → rowGood s0.size (ss.getD r ByteArray.empty) = true) ∧ Hid (Wrote (fun j => j = ab) w1 wr ∧ Img wr b ab s0.size ss.length (copied false L (y * s0.size)))) (fun _ _ _ i _ => ss.length - (intOf i).toNat)
      case atStart => exact ⟨0, Nat.zero_le _, rfl, fun r hr => by omega, HI⟩
      case round =>
        obtain ⟨y, hy, rfl, HG, HY⟩ := hrel
        obtain ⟨wo, rfl⟩ : ∃ wo : World, wo = wr := ⟨_, rfl⟩
        by_cases hlty : y < ss.length
        · obtain ⟨b0', o0', hbo, hc0⟩ := (HM.out.ext X1.out) y hlty
          simp only [Option.some.injEq, Addr.mk.injEq, and_true] at hbo
          obtain ⟨rfl, rfl⟩ := hbo
          have hc := HY.out.1.cell hc0 (by dsimp only; omega)
          have hw := HY.out.2.c0
          have hlty' : (y : Int) < (ss.length : Int) := by omega
          have hy0 : (0 : Int) ≤ (y : Int) := by omega
          have HAY : Hid (∀ x, x < s0.size → L.getD (y * s0.size + x) false = ((ss.getD y ByteArray.empty).data.toList.getD x 0 == 35)) := fun x hx => HAT.out x y hx hlty
          have HB := Lib.hid (HBAD.out y hlty)
          have HN : Hid (rowGood s0.size (ss.getD y ByteArray.empty) = true → ∀ r, r < y + 1 → rowGood s0.size (ss.getD r ByteArray.empty) = true) := fun h r hr => by
            by_cases e : r = y
            · rw [e]; exact h
            · exact HG.out r (by omega)
          have hsy := HSZ.out y
          have HXW : Hid (w.Ext wo) := X1.out.wroteNew HY.out.1 (fun k hk => by omega)
          have HKL : Hid (∀ x, x < s0.size → y * s0.size + x < L.length) := fun x hx => by
            rw [HLEN.out]
            have := Nat.mul_le_mul_right s0.size hlty
            rw [Nat.succ_mul] at this
            omega
          clear hc0
          generalize ss.getD y ByteArray.empty = s at hc HAY HB HN hsy
          have hsm : s.size ≤ 4611686018427387904 := by omega
          by_cases hsW : s.size = s0.size
          · have hne : ((s.size : Int) != (s0.size : Int)) = false := by simp; omega
            go_wp2
            clear hc hw
            go_loopw [7, 50] (fun _ i w2 => ∃ x : Nat, x ≤ s.size ∧ i = .int .i64 x ∧ Hid (∀ j, j < x → pixOk (s.data.toList.getD j 0) = true) ∧ Hid (Wrote (fun j => j = ab) w1 w2 ∧ Img w2 b ab s0.size ss.length (copied false L (y * s0.size + x)))) (fun _ i _ => s.size - (intOf i).toNat)
            case atStart => exact ⟨0, Nat.zero_le _, rfl, fun j hj => by omega, HY⟩
            case round =>
              obtain ⟨x, hx, rfl, HP, HX⟩ := hrel
              by_cases hltx : x < s.size
              · have hltx' : (x : Int) < (s.size : Int) := by omega
                have hx0 : (0 : Int) ≤ (x : Int) := by omega
                have hxW : (x : Int) < (s0.size : Int) := by omega
                have hb35 := byte_eq s x hltx 35
                have hb46 := byte_eq s x hltx 46
                have HV := Lib.hid (HAY.out x (by omega))
                cases h35 : (s.data.toList.getD x 0 == 35)
                · cases h46 : (s.data.toList.getD x 0 == 46)
                  · have h2 : (((s[x]'hltx).toNat : Int) != 35) = true := by unfold bne; rw [show (((s[x]'hltx).toNat : Int) == 35) = false from by rw [← h35]; exact hb35]; rfl
                    have h4 : (((s[x]'hltx).toNat : Int) != 46) = true := by unfold bne; rw [show (((s[x]'hltx).toNat : Int) == 46) = false from by rw [← h46]; exact hb46]; rfl
                    have hbad : rowGood s0.size s = false := by
                      unfold rowGood
                      have h5 : s.data.toList.all pixOk = false := all_false (d := (0 : UInt8)) (show x < s.data.toList.length by simpa using hltx) (by unfold pixOk; rw [h35, h46]; rfl)
                      rw [h5, Bool.and_false]
                    have hf := HB.out hbad
                    subst hf
                    clear hb35 hb46 h35 h46 HV hbad
                    go_wp2
                    go_ret2
                    exact ⟨rfl, X1.out.wroteNew HX.out.1 (fun k hk => by omega)⟩
                  · have h2 : (((s[x]'hltx).toNat : Int) == 35) = false := by rw [← h35]; exact hb35
                    have h1 : (((s[x]'hltx).toNat : Int) != 35) = true := by unfold bne; rw [h2]; rfl
                    have h4 : (((s[x]'hltx).toNat : Int) != 46) = false := by unfold bne; rw [show (((s[x]'hltx).toNat : Int) == 46) = true from by rw [← h46]; exact hb46]; rfl
                    have HS2 : Hid ((copied false L (y * s0.size + x)).set ((y : Int) * (s0.size : Int) + (x : Int)).toNat false = copied false L (y * s0.size + x + 1)) := by
                      have e : ((y : Int) * (s0.size : Int) + (x : Int)).toNat = y * s0.size + x := by rw [← Int.natCast_mul]; omega
                      have h3 := copied_set false L _ (HKL.out x (by omega))
                      rw [HV.out, h35] at h3
                      show _ = _
                      rw [e]
                      exact h3
                    have HP1 : Hid (∀ j, j < x + 1 → pixOk (s.data.toList.getD j 0) = true) := fun j hj => by
                      by_cases e : j = x
                      · rw [e]; unfold pixOk; rw [h46, Bool.or_true]
                      · exact HP.out j (by omega)
                    clear hb35 hb46 h35 HV h46
                    go_wp2_with fail
                    refine (set_any b ab s0.size ss.length _ x y false _ hl64 hh64 HX.out.2 hx0 hxW hy0 hlty').mono ?_
                    rintro e w3 ⟨rfl, hw3, hi3⟩
                    rw [HS2.out] at hi3
                    have H3 := Lib.hid (And.intro (HX.out.1.trans hw3) hi3)
                    clear hw3 hi3
                    go_wp2
                    go_roundw
                    case rel => exact ⟨x + 1, by omega, by go_num, HP1.out, H3.out⟩
                    case measure => simp [intOf]; omega
                · have h2 : (((s[x]'hltx).toNat : Int) == 35) = true := by rw [← h35]; exact hb35
                  have h1 : (((s[x]'hltx).toNat : Int) != 35) = false := by unfold bne; rw [h2]; rfl
                  
                  have HS2 : Hid ((copied false L (y * s0.size + x)).set ((y : Int) * (s0.size : Int) + (x : Int)).toNat true = copied false L (y * s0.size + x + 1)) := by
                    have e : ((y : Int) * (s0.size : Int) + (x : Int)).toNat = y * s0.size + x := by rw [← Int.natCast_mul]; omega
                    have h3 := copied_set false L _ (HKL.out x (by omega))
                    rw [HV.out, h35] at h3
                    show _ = _
                    rw [e]
                    exact h3
                  have HP1 : Hid (∀ j, j < x + 1 → pixOk (s.data.toList.getD j 0) = true) := fun j hj => by
                    by_cases e : j = x
                    · rw [e]; unfold pixOk; rw [h35, Bool.true_or]
                    · exact HP.out j (by omega)
                  clear hb35 hb46 h35 HV 
                  go_wp2_with fail
                  refine (set_any b ab s0.size ss.length _ x y true _ hl64 hh64 HX.out.2 hx0 hxW hy0 hlty').mono ?_
                  rintro e w3 ⟨rfl, hw3, hi3⟩
                  rw [HS2.out] at hi3
                  have H3 := Lib.hid (And.intro (HX.out.1.trans hw3) hi3)
                  clear hw3 hi3
                  go_wp2
                  go_roundw
                  case rel => exact ⟨x + 1, by omega, by go_num, HP1.out, H3.out⟩
                  case measure => simp [intOf]; omega
              · have : x = s.size := by omega
                subst this
                have hgood : rowGood s0.size s = true := by
                  unfold rowGood
                  rw [decide_eq_true hsW, Bool.true_and, all_getD (d := (0 : UInt8))]
                  exact fun j hj => HP.out j (by simpa using hj)
                have HGN := Lib.hid (HN.out hgood)
                have H4 : Hid (Wrote (fun j => j = ab) w1 wr ∧ Img wr b ab s0.size ss.length (copied false L ((y + 1) * s0.size))) := by
                  have := HX.out
                  rw [hsW] at this
                  rw [Nat.succ_mul]
                  exact this
                clear hgood
                go_wp2
                go_roundw
                case rel => exact ⟨y + 1, by omega, by go_num, HGN.out, H4.out⟩
                case measure => simp [intOf]; omega
          · have hbad : rowGood s0.size s = false := by unfold rowGood; rw [decide_eq_false hsW]; rfl
            have hf := HB.out hbad
            subst hf
            have hne : ((s.size : Int) != (s0.size : Int)) = true := by simp; omega
            clear hbad
            go_wp2
            go_ret2
            exact ⟨rfl, HXW.out⟩
        · have : y = ss.length := by omega
          subst this
          obtain ⟨hf, hL⟩ := HGOOD.out HG.out
          subst hf
          have HF : Hid (w.Ext wo ∧ Img wo b ab (picW ss) ss.length (picL ss)) := by
            refine ⟨X1.out.wroteNew HY.out.1 (fun k hk => by omega), ?_⟩
            have := HY.out.2
            rw [← HLEN.out, copied_all] at this
            rw [HW.out, ← hL]
            exact this
          clear hL HY
          go_wp2
          go_ret2
          exact ⟨b, ab, rfl, HF.out.1, HF.out.2, hlb2, hlab2⟩
  · have hm0 : ss = [] := by
      cases ss with
      | nil => rfl
      | cons x y => simp at hpos
    subst hm0
    have hf : ok = false := by rw [← HOK.out]; exact picOk_nil
    subst hf
    clear hm hs hok
    go_enter Try.func16, Try.ntmps16
    go_wp2_with fail
    refine wp_region_over_lit (by kernel_rfl) (by kernel_rfl) ?_; (repeat (go_big_quiet_step (fail))); refine wpQuiet_nil ?_; rintro _ ⟨x1, rfl⟩
    go_wp2
    go_ret2
    refine ⟨rfl, ?_⟩
    repeat (first | exact World.Ext.refl _ | exact ⟨_, rfl⟩ | assumption | refine World.Ext.over ?_ _ | refine World.Ext.drewN ?_ _ | refine World.Ext.drew ?_ | refine World.Ext.alloc ?_ _ | refine World.Ext.setCell ?_ (by simp) _)
end Go.Proofs.Ytelaoimcaidoiaa
namespace Go.Proofs.Ytelaoimcaidoiaa
open Go.RowKit
end Go.Proofs.Ytelaoimcaidoiaa
