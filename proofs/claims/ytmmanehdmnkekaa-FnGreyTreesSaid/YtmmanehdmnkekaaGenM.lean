/- The reference makes a picture: its rows are the call's own. -/
import Derived.Test.YtmmanehdmnkekaaPic
namespace Go.Proofs.Ytmmanehdmnkekaa
open Go Go.RowKit
set_option maxRecDepth 5000 in
set_option maxHeartbeats 1600000 in
theorem l01MakeG_any (a : Option Addr) (c W H : Nat) (l : List Bool) (w : World) (hW : 1 ≤ W) (hW2 : W ≤ 64) (hH : H ≤ 64) (hl : l.length = W * H) (hr : RowB w a l) :
    Calls Try.prog 136 #[.int .i64 W, .slice a l.length c] w fun e w' => ∃ a' c', e = .returned (.agg #[.slice a' H c']) ∧ w.Ext w' ∧ GrowOf Value.string w.heap.size 9 w' (.slice a' H c') (picRows W H l) := by
  obtain ⟨iu, hiu, hu0, hu1, hu2⟩ := info_parts Try.infoU8
  obtain ⟨is, his, hs0, hs1, hs2⟩ := info_parts Try.infoStr
  have hlm : l.length ≤ 4096 := by rw [hl]; exact Nat.le_trans (Nat.mul_le_mul hW2 hH) (by decide)
  have HL := Lib.hid hl
  have HR := Lib.hid hr
  obtain ⟨hp4, hp5, hg0, hx0⟩ := makeStart w 38 9
  have HS : Hid (Rowed w w.heap.size (w.heap.size + 1 + 1) 38 9 W l 0 _) := ⟨hx0, Nat.le_refl _, by omega, by omega, hp4, _, hp5, hg0⟩
  clear hl hr hp4 hp5 hg0 hx0
  go_enter Try.func136, Try.ntmps136
  go_wp2
  obtain ⟨p4, hp4⟩ : ∃ p4, p4 = w.heap.size := ⟨_, rfl⟩
  obtain ⟨p5, hp5⟩ : ∃ p5, p5 = w.heap.size + 1 + 1 := ⟨_, rfl⟩
  rw [← hp5] at HS ⊢
  rw [← hp4] at HS ⊢
  generalize ((w.alloc (.cells #[.slice none 0 0] 38)).alloc (.cells #[] 9)).alloc (.cells #[.slice (some ⟨p4 + 1, 0, none⟩) 0 0] 38) = W0 at HS ⊢
  clear hp4 hp5
  go_loopw [6, 7, 8, 9] (fun f _ _ _ wr => ∃ y F : Nat, y ≤ H ∧ Hid (F = y * W) ∧ f = .int .i64 F ∧ Hid (Rowed w p4 p5 38 9 W l y wr)) (fun f _ _ _ _ => l.length - (intOf f).toNat)
  case atStart => exact ⟨0, 0, Nat.zero_le _, by simp [Hid], rfl, HS⟩
  case round =>
    obtain ⟨y, F, hy, HF, rfl, HW⟩ := hrel
    obtain ⟨wo, rfl⟩ : ∃ wo : World, wo = wr := ⟨_, rfl⟩
    by_cases hlt : y < H
    · have hrow := rowAt_len W H l y HL.out hlt
      have hFW : F + W ≤ l.length := by
        rw [HF.out, HL.out]
        have := Nat.mul_le_mul_right W hlt
        rw [Nat.succ_mul] at this
        rw [Nat.mul_comm W H]; exact this
      have hlt' : (F : Int) < (l.length : Int) := by omega
      have hg0 := GrowOf.empty (f := Value.int .u8) (lo := wo.heap.size) (e := 5) wo (Nat.le_refl _)
      have hx0 : wo.Ext (wo.alloc (.cells #[] 5)) := by repeat (first | exact World.Ext.refl _ | exact ⟨_, rfl⟩ | assumption | refine World.Ext.over ?_ _ | refine World.Ext.drewN ?_ _ | refine World.Ext.drew ?_ | refine World.Ext.alloc ?_ _ | refine World.Ext.setCell ?_ (by simp) _)
      have HG0 := Lib.hid hg0
      have HX0 := Lib.hid hx0
      clear hg0 hx0
      go_wp2
      go_loopw [7, 8, 9] (fun v i _ w2 => ∃ x : Nat, x ≤ W ∧ i = .int .i64 x ∧ Hid (wo.Ext w2) ∧ Hid (GrowOf (Value.int .u8) wo.heap.size 5 w2 v (((l.drop F).take x).map byteOf))) (fun _ i _ _ => W - (intOf i).toNat)
      case atStart => exact ⟨0, Nat.zero_le _, rfl, HX0, HG0⟩
      case round =>
        obtain ⟨x, hx, rfl, HX, HG⟩ := hrel
        by_cases hltx : x < W
        · obtain ⟨b, o, rfl, hc⟩ := ((RowOf.ext HR.out HW.out.ext).ext HX.out) (F + x) (by omega)
          have hlen : (((l.drop F).take x).map byteOf).length = x := by simp; omega
          have hown := HG.out
          have hbyte := row_bytes l F x (by omega)
          have hd0 : (0 : Int) ≤ (F : Int) + (x : Int) := by omega
          have hd1 : (F : Int) + (x : Int) < (l.length : Int) := by omega
          have hltx' : (x : Int) < (W : Int) := by omega
          have HLEN := Lib.hid hlen
          unfold GrowOf at hown
          rw [hlen] at hown
          have hlx : x + 1 ≤ maxLen := by unfold maxLen; omega
          have hlb : (x + 1) * 1 ≤ 140737488355328 := by omega
          have HLX := Lib.hid hlx
          have HLB := Lib.hid hlb
          have hle : ∀ o : Obj, wo.heap.size ≤ (wr.alloc o).heap.size := fun o => (HX.out.alloc o).size
          have hnext : ∀ (o : Obj) (v' : Value) (w1 : World), (wr.alloc o).grownBy w1 u7.ownBlock → w1.ownsRow wo.heap.size 5 1 v' (x + 1) ((((l.drop F).take x).map byteOf).map (Value.int .u8) ++ [Value.int .u8 (byteOf (l.getD (F + x) false))]) →
              wo.Ext w1 ∧ GrowOf (Value.int .u8) wo.heap.size 5 w1 v' (((l.drop F).take (x + 1)).map byteOf) := fun o v' w1 hgrow hown' => by
            refine ⟨HG.out.pushExt HX.out hgrow, ?_⟩
            rw [← hbyte]
            exact GrowOf.push (by rw [hlen]; exact hown')
          have HNEXT := Lib.hid hnext
          have HLE := Lib.hid hle
          clear hlx hlb hlen hbyte hnext hle
          cases hv : l.getD (F + x) false
          · rw [hv] at hc HNEXT
            clear hv
            go_wp2_with (at_builtin; refine wpList_append_own _ rfl _ _ 22 rfl wo.heap.size 5 iu (.int .u8 0) 1 1 Try.underlying22 hiu hu0 hu1 hu2 rfl (by decide) _ _ _ rfl (hown.alloc _) ⟨wr.heap.size, 0, none⟩ 1 1 [.int .u8 46] rfl rfl (cell_one_new _ _ _) (by simp [Value.oneCell']) HLX.out HLB.out (HLE.out _) (fun v' w1 hown' hgrow _ => ?_))
            obtain ⟨hx1, hg1⟩ := HNEXT.out _ _ _ hgrow hown'
            have HX1 := Lib.hid hx1
            have HG1 := Lib.hid hg1
            clear hx1 hg1 hgrow hown' hown hc
            go_wp2
            go_roundw
            case rel => exact ⟨x + 1, by omega, by go_num, HX1, HG1⟩
            case measure => simp [intOf]; omega
          · rw [hv] at hc HNEXT
            clear hv
            go_wp2_with (at_builtin; refine wpList_append_own _ rfl _ _ 22 rfl wo.heap.size 5 iu (.int .u8 0) 1 1 Try.underlying22 hiu hu0 hu1 hu2 rfl (by decide) _ _ _ rfl (hown.alloc _) ⟨wr.heap.size, 0, none⟩ 1 1 [.int .u8 35] rfl rfl (cell_one_new _ _ _) (by simp [Value.oneCell']) HLX.out HLB.out (HLE.out _) (fun v' w1 hown' hgrow _ => ?_))
            obtain ⟨hx1, hg1⟩ := HNEXT.out _ _ _ hgrow hown'
            have HX1 := Lib.hid hx1
            have HG1 := Lib.hid hg1
            clear hx1 hg1 hgrow hown' hown hc
            go_wp2
            go_roundw
            case rel => exact ⟨x + 1, by omega, by go_num, HX1, HG1⟩
            case measure => simp [intOf]; omega
        · have : x = W := by omega
          subst this
          have hbl : (((l.drop F).take x).map byteOf).length = x := by simp; omega
          obtain ⟨g, cap, rfl, hg1, hg2, hcell⟩ := HG.out.some (by omega)
          rw [hbl] at hcell ⊢
          have hcv := run_convert_bytes_arg (P := Try.prog) wr 22 5 Try.underlying22 Try.underlying5 g 0 x cap (((l.drop F).take x).map byteOf) hbl
            (by intro i hi; rw [Nat.zero_add]; exact hcell 0 i hi) 9 Try.underlying9
          have hstr : strOfNums (((l.drop F).take x).map byteOf) = rowStr (rowAt x l y) := by rw [HF.out]; rfl
          rw [hstr] at hcv
          have hM := HW.out.move HX.out
          obtain ⟨v, hv, hgv⟩ := hM.str
          have hown := hgv
          unfold GrowOf at hown
          rw [picRows_len] at hown
          have hy1 : y + 1 ≤ maxLen := by unfold maxLen; omega
          have hy2 : (y + 1) * 16 ≤ 140737488355328 := by omega
          have hnext : ∀ (o : Obj) (v' : Value) (w1 : World), (wr.alloc o).grownBy w1 v.ownBlock → w1.ownsRow w.heap.size 9 1 v' (y + 1) ((picRows x y l).map Value.string ++ [Value.string (rowStr (rowAt x l y))]) →
              (∃ a1 c1, v' = .slice a1 (y + 1) c1) ∧ (w1.cell? ⟨p5, 0, none⟩ = some v ∧ w1.frozen? ⟨p5, 0, none⟩ = false) ∧ Rowed w p4 p5 38 9 x l (y + 1) (w1.setCell ⟨p5, 0, none⟩ v') := fun o v' w1 hgrow hown' => by
            have h5 := (hv.ext ((World.Ext.refl _).alloc o)).grown hgrow (hgv.ne hv (by decide))
            have hfm : ∃ a1 c1, v' = .slice a1 (y + 1) c1 := by
              obtain ⟨a1, c1, h1, _⟩ := GrowOf.form (f := Value.string) (xs := picRows x y l ++ [rowStr (rowAt x l y)]) (GrowOf.push (by rw [picRows_len]; exact hown'))
              exact ⟨a1, c1, by rw [h1]; simp [picRows_len]⟩
            exact ⟨hfm, ⟨h5.cell, h5.free⟩, hM.next (by decide) hv hgv hgrow (by rw [picRows_len]; exact hown')⟩
          have hle : ∀ o : Obj, w.heap.size ≤ (wr.alloc o).heap.size := fun o => (hM.ext.alloc o).size
          have hc5 := hv.cell
          have HNEXT := Lib.hid hnext
          have HLE := Lib.hid hle
          have HY1 := Lib.hid hy1
          have HY2 := Lib.hid hy2
          have HMF : Hid (F + x = (y + 1) * x) := by show _ = _; rw [HF.out, Nat.succ_mul]
          clear hnext hle hy1 hy2 hM hv hgv hcell hbl hg1 hg2 hrow
          generalize rowStr (rowAt x l y) = st at *
          go_wp2_with ((at_builtin; refine wpList_append_own _ rfl _ _ 36 rfl w.heap.size 9 is (.string ByteArray.empty) 1 16 Try.underlying36 his hs0 hs1 hs2 rfl (by decide) _ _ _ rfl (hown.alloc _) ⟨wr.heap.size, 0, none⟩ 1 1 [.string st] rfl rfl (cell_one_new _ _ _) (by simp [Value.oneCell']) HY1.out HY2.out (HLE.out _) (fun v' w1 hown' hgrow _ => ?_)); obtain ⟨⟨a1, c1, rfl⟩, ⟨hc6, hf6⟩, hR⟩ := HNEXT.out _ _ _ hgrow hown'; have HRN := Lib.hid hR; clear hR hown' hgrow hc5)
          go_roundw
          case rel => exact ⟨y + 1, F + x, by omega, HMF, by go_num, HRN⟩
          case measure => simp [intOf]; omega
    · have : y = H := by omega
      subst this
      have hF : F = l.length := by rw [HF.out, HL.out, Nat.mul_comm]
      subst hF
      obtain ⟨v, hv, hgv⟩ := HW.out.str
      obtain ⟨a', c', rfl, _⟩ := hgv.form
      rw [picRows_len] at *
      have hc5 := hv.cell
      have hc4 := HW.out.res.cell
      have hf4 := HW.out.res.free
      have hres := HW.out.res
      have hx4 := HW.out.ext.setCell (p := ⟨p4, 0, none⟩) HW.out.le4 (.slice a' y c')
      have ho4 := (hgv.setCell (a := ⟨p4, 0, none⟩) (hgv.ne hres (by decide)) (.slice a' y c'))
      have hr4 := (hres.set (.slice a' y c')).cell
      have HX4 := Lib.hid hx4
      have HO4 := Lib.hid ho4
      clear hx4 ho4 hv hgv hres
      go_wp2
      exact bodyPost_ret (v := .agg #[.slice a' y c']) (by simp [results, Try.results136, go_sem, hr4]) rfl ⟨a', c', rfl, HX4.out, HO4.out⟩
end Go.Proofs.Ytmmanehdmnkekaa
