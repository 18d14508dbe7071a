/- The program's images as pictures, and its grey pictures. -/
import Derived.Test.YtpploijlijnahaaIImage
import Derived.Test.YtpploijlijnahaaSMake
namespace Go.Proofs.Ytpploijlijnahaa
open Go.RowKit
theorem pxl_at (W H : Nat) (l : List Bool) (x y : Nat) (hx : x < W) (hy : y < H) : pxl W H l (x : Int) (y : Int) = l.getD (y * W + x) false := by
  have h : hasB W H (x : Int) (y : Int) = true := by rw [hasB_true]; omega
  unfold pxl
  unfold hasB at h
  rw [h, Bool.true_and]
  congr 1
/-- A picture is returned, in new memory. -/
def PicVal (w : World) (rows : List ByteArray) (e : Ending) (w' : World) : Prop :=
  ∃ a c, e = .returned (.agg #[.slice a rows.length c]) ∧ w.Ext w' ∧ OwnOf Value.string ByteArray.empty w.heap.size w'.heap.size w' a rows
theorem toldStart (w : World) (T : TypeId) :
    One ((w.alloc (.cells #[.slice none 0 0] T)).alloc (.cells #[.slice none 0 0] T)) w.heap.size T (.slice none 0 0) ∧
    One ((w.alloc (.cells #[.slice none 0 0] T)).alloc (.cells #[.slice none 0 0] T)) (w.heap.size + 1) T (.slice none 0 0) ∧
    w.Ext ((w.alloc (.cells #[.slice none 0 0] T)).alloc (.cells #[.slice none 0 0] T)) :=
  ⟨(One.new w _ _ _ rfl).ext ((World.Ext.refl _).alloc _), One.new _ _ _ _ (by simp), by repeat (first | exact World.Ext.refl _ | exact ⟨_, rfl⟩ | assumption | refine World.Ext.over ?_ _ | refine World.Ext.drewN ?_ _ | refine World.Ext.drew ?_ | refine World.Ext.alloc ?_ _ | refine World.Ext.setCell ?_ (by simp) _)⟩
theorem GrowOf.nilStart {α : Type} {f : α → Value} (lo : Nat) (e : TypeId) (w : World) : GrowOf f lo e w (.slice none 0 0) ([] : List α) := ⟨rfl, .inl ⟨rfl, rfl⟩⟩
set_option maxRecDepth 5000 in
set_option maxHeartbeats 1600000 in
theorem told_any (b ab W H : Nat) (l : List Bool) (w : World) (hW1 : 1 ≤ W) (hW : W ≤ 64) (hH : H ≤ 64) (hI : Img w b ab W H l) :
    Calls Try.prog 114 #[.pointer (some ⟨b, 0, none⟩)] w (PicVal w (picRows W H l)) := by
  obtain ⟨iu, hiu, hu0, hu1, hu2⟩ := info_parts Try.infoU8
  obtain ⟨is, his, hs0, hs1, hs2⟩ := info_parts Try.infoStr
  obtain ⟨hp4, hp5, hx0⟩ := toldStart w 30
  have HS : Hid (Rowed w w.heap.size (w.heap.size + 1) 30 9 W l 0 _) := ⟨hx0, Nat.le_refl _, by omega, by omega, hp4, _, hp5, GrowOf.nilStart _ _ _⟩
  have hlm : l.length ≤ 4096 := by rw [hI.len]; exact Nat.mul_le_mul hW hH
  have HI := Lib.hid hI
  have h0 := hI.c0
  have h1 := hI.c1
  have hlt := hI.lt
  clear hI hp4 hp5 hx0
  go_enter Try.func114, Try.ntmps114
  go_wp2
  obtain ⟨p4, hp4⟩ : ∃ p4, p4 = w.heap.size := ⟨_, rfl⟩
  obtain ⟨p5, hp5⟩ : ∃ p5, p5 = w.heap.size + 1 := ⟨_, rfl⟩
  rw [← hp5] at HS ⊢
  rw [← hp4] at HS ⊢
  generalize (w.alloc (.cells #[.slice none 0 0] 30)).alloc (.cells #[.slice none 0 0] 30) = W0 at HS ⊢
  clear hp4 hp5
  go_loopw [4, 5, 6, 12] (fun _ _ _ i wr => ∃ y : Nat, y ≤ H ∧ i = .int .i64 y ∧ Hid (Rowed w p4 p5 30 9 W l y wr)) (fun _ _ _ i _ => H - (intOf i).toNat)
  case atStart => exact ⟨0, Nat.zero_le _, rfl, HS⟩
  case round =>
    obtain ⟨y, hy, rfl, HW⟩ := hrel
    obtain ⟨wo, rfl⟩ : ∃ wo : World, wo = wr := ⟨_, rfl⟩
    by_cases hlty : y < H
    · have hrow := rowAt_len W H l y HI.out.len hlty
      have hFW : y * W + W ≤ l.length := by
        rw [HI.out.len]
        have := Nat.mul_le_mul_right W hlty
        rw [Nat.succ_mul] at this
        rw [Nat.mul_comm W H]; exact this
      have hg0 := GrowOf.empty (f := Value.int .u8) (lo := wo.heap.size) (e := 5) wo (Nat.le_refl _)
      have hx0 : wo.Ext (wo.alloc (.cells #[] 5)) := by repeat (first | exact World.Ext.refl _ | exact ⟨_, rfl⟩ | assumption | refine World.Ext.over ?_ _ | refine World.Ext.drewN ?_ _ | refine World.Ext.drew ?_ | refine World.Ext.alloc ?_ _ | refine World.Ext.setCell ?_ (by simp) _)
      have hc0 := (HW.out.ext.trans hx0).cell h0
      have HG0 := Lib.hid hg0
      have HX0 := Lib.hid hx0
      have hy0 : (0 : Int) ≤ (y : Int) := by omega
      clear hg0 hx0
      go_wp2
      clear hc0
      go_loopw [5, 6, 20] (fun v _ i w2 => ∃ x : Nat, x ≤ W ∧ i = .int .i64 x ∧ Hid (wo.Ext w2) ∧ Hid (GrowOf (Value.int .u8) wo.heap.size 5 w2 v (((l.drop (y * W)).take x).map byteOf))) (fun _ _ i _ => W - (intOf i).toNat)
      case atStart => exact ⟨0, Nat.zero_le _, rfl, HX0, HG0⟩
      case round =>
        obtain ⟨x, hx, rfl, HX, HG⟩ := hrel
        by_cases hltx : x < W
        · have hlen : (((l.drop (y * W)).take x).map byteOf).length = x := by simp; omega
          have hown := HG.out
          have hbyte := row_bytes l (y * W) x (by omega)
          have hltx' : (x : Int) < (W : Int) := by omega
          have HLEN := Lib.hid hlen
          unfold GrowOf at hown
          rw [hlen] at hown
          have hlx : x + 1 ≤ maxLen := by unfold maxLen; omega
          have hlb : (x + 1) * 1 ≤ 140737488355328 := by omega
          have HLX := Lib.hid hlx
          have HLB := Lib.hid hlb
          have hle : ∀ (wz : World) (o : Obj), wr.Ext wz → wo.heap.size ≤ (wz.alloc o).heap.size := fun wz o hz => ((HX.out.trans hz).alloc o).size
          have hnext : ∀ (wz : World) (o : Obj) (v' : Value) (w1 : World), wr.Ext wz → (wz.alloc o).grownBy w1 u5.ownBlock → w1.ownsRow wo.heap.size 5 1 v' (x + 1) ((((l.drop (y * W)).take x).map byteOf).map (Value.int .u8) ++ [Value.int .u8 (byteOf (l.getD (y * W + x) false))]) →
              wo.Ext w1 ∧ GrowOf (Value.int .u8) wo.heap.size 5 w1 v' (((l.drop (y * W)).take (x + 1)).map byteOf) := fun wz o v' w1 hz hgrow hown' => by
            refine ⟨(HG.out.ext hz).pushExt (HX.out.trans hz) hgrow, ?_⟩
            rw [← hbyte]
            exact GrowOf.push (by rw [hlen]; exact hown')
          have HNEXT := Lib.hid hnext
          have HLE := Lib.hid hle
          have HOWN : Hid (∀ wz : World, wr.Ext wz → wz.ownsRow wo.heap.size 5 1 u5 x ((((l.drop (y * W)).take x).map byteOf).map (Value.int .u8))) := fun wz hz => by
            have := HG.out.ext hz
            unfold GrowOf at this
            rwa [hlen] at this
          have HIM := Lib.hid ((HI.out.ext HW.out.ext).ext HX.out)
          clear hlx hlb hlen hbyte hnext hle hown
          cases hv : l.getD (y * W + x) false
          · have HP : Hid (pxl W H l (x : Int) (y : Int) = false) := by show _ = _; rw [pxl_at W H l x y hltx hlty]; exact hv
            rw [hv] at HNEXT
            clear hv
            go_wp2_with fail
            refine (get_any b ab W H l x y _ hW hH HIM.out _ HP.out).mono ?_
            rintro e w5 ⟨rfl, hz⟩
            have hown := HOWN.out w5 hz
            have HZ := Lib.hid hz
            clear hz
            go_wp2_with ((at_builtin; refine wpList_append_own _ rfl _ _ 45 rfl wo.heap.size 5 iu (.int .u8 0) 1 1 Try.underlying45 hiu hu0 hu1 hu2 rfl (by decide) _ _ _ rfl (hown.alloc _) ⟨w5.heap.size, 0, none⟩ 1 1 [.int .u8 46] rfl rfl (cell_one_new _ _ _) (by simp [Value.oneCell']) HLX.out HLB.out (HLE.out w5 _ HZ.out) (fun v' w1 hown' hgrow _ => ?_)); obtain ⟨hx1, hg1⟩ := HNEXT.out w5 _ _ _ HZ.out hgrow hown'; have HX1 := Lib.hid hx1; have HG1 := Lib.hid hg1; clear hx1 hg1 hgrow hown' hown)
            go_roundw
            case rel => exact ⟨x + 1, by omega, by go_num, HX1, HG1⟩
            case measure => simp [intOf]; omega
          · have HP : Hid (pxl W H l (x : Int) (y : Int) = true) := by show _ = _; rw [pxl_at W H l x y hltx hlty]; exact hv
            rw [hv] at HNEXT
            clear hv
            go_wp2_with fail
            refine (get_any b ab W H l x y _ hW hH HIM.out _ HP.out).mono ?_
            rintro e w5 ⟨rfl, hz⟩
            have hown := HOWN.out w5 hz
            have HZ := Lib.hid hz
            clear hz
            go_wp2_with ((at_builtin; refine wpList_append_own _ rfl _ _ 45 rfl wo.heap.size 5 iu (.int .u8 0) 1 1 Try.underlying45 hiu hu0 hu1 hu2 rfl (by decide) _ _ _ rfl (hown.alloc _) ⟨w5.heap.size, 0, none⟩ 1 1 [.int .u8 35] rfl rfl (cell_one_new _ _ _) (by simp [Value.oneCell']) HLX.out HLB.out (HLE.out w5 _ HZ.out) (fun v' w1 hown' hgrow _ => ?_)); obtain ⟨hx1, hg1⟩ := HNEXT.out w5 _ _ _ HZ.out hgrow hown'; have HX1 := Lib.hid hx1; have HG1 := Lib.hid hg1; clear hx1 hg1 hgrow hown' hown)
            go_roundw
            case rel => exact ⟨x + 1, by omega, by go_num, HX1, HG1⟩
            case measure => simp [intOf]; omega
        · have : x = W := by omega
          subst this
          have hbl : (((l.drop (y * x)).take x).map byteOf).length = x := by simp; omega
          obtain ⟨g, cap, rfl, hg1, hg2, hcell⟩ := HG.out.some (by omega)
          rw [hbl] at hcell ⊢
          have hcv := run_convert_bytes_arg (P := Try.prog) wr 45 5 Try.underlying45 Try.underlying5 g 0 x cap (((l.drop (y * x)).take x).map byteOf) hbl
            (by intro i hi; rw [Nat.zero_add]; exact hcell 0 i hi) 9 Try.underlying9
          have hstr : strOfNums (((l.drop (y * x)).take x).map byteOf) = rowStr (rowAt x l y) := rfl
          rw [hstr] at hcv
          have hM := HW.out.move HX.out
          obtain ⟨v, hv, hgv⟩ := hM.str
          have hown := hgv
          unfold GrowOf at hown
          rw [picRows_len] at hown
          have hy1 : y + 1 ≤ maxLen := by unfold maxLen; omega
          have hy2 : (y + 1) * 16 ≤ 140737488355328 := by omega
          have hnext : ∀ (o : Obj) (v' : Value) (w1 : World), (wr.alloc o).grownBy w1 v.ownBlock → w1.ownsRow w.heap.size 9 1 v' (y + 1) ((picRows x y l).map Value.string ++ [Value.string (rowStr (rowAt x l y))]) →
              (∃ a1 c1, v' = .slice a1 (y + 1) c1) ∧ (w1.cell? ⟨p5, 0, none⟩ = some v ∧ w1.frozen? ⟨p5, 0, none⟩ = false) ∧ Rowed w p4 p5 30 9 x l (y + 1) (w1.setCell ⟨p5, 0, none⟩ v') := fun o v' w1 hgrow hown' => by
            have h5 := (hv.ext ((World.Ext.refl _).alloc o)).grown hgrow (hgv.ne hv (by decide))
            have hfm : ∃ a1 c1, v' = .slice a1 (y + 1) c1 := by
              obtain ⟨a1, c1, h1, _⟩ := GrowOf.form (f := Value.string) (xs := picRows x y l ++ [rowStr (rowAt x l y)]) (GrowOf.push (by rw [picRows_len]; exact hown'))
              exact ⟨a1, c1, by rw [h1]; simp [picRows_len]⟩
            exact ⟨hfm, ⟨h5.cell, h5.free⟩, hM.next (by decide) hv hgv hgrow (by rw [picRows_len]; exact hown')⟩
          have hle : ∀ o : Obj, w.heap.size ≤ (wr.alloc o).heap.size := fun o => (hM.ext.alloc o).size
          have hc5 := hv.cell
          have HNEXT := Lib.hid hnext
          have HLE := Lib.hid hle
          have HY1 := Lib.hid hy1
          have HY2 := Lib.hid hy2
          clear hnext hle hy1 hy2 hM hv hgv hcell hbl hg1 hg2 hrow
          generalize rowStr (rowAt x l y) = st at *
          go_wp2_with ((at_builtin; refine wpList_append_own _ rfl _ _ 22 rfl w.heap.size 9 is (.string ByteArray.empty) 1 16 Try.underlying22 his hs0 hs1 hs2 rfl (by decide) _ _ _ rfl (hown.alloc _) ⟨wr.heap.size, 0, none⟩ 1 1 [.string st] rfl rfl (cell_one_new _ _ _) (by simp [Value.oneCell']) HY1.out HY2.out (HLE.out _) (fun v' w1 hown' hgrow _ => ?_)); obtain ⟨⟨a1, c1, rfl⟩, ⟨hc6, hf6⟩, hR⟩ := HNEXT.out _ _ _ hgrow hown'; have HRN := Lib.hid hR; clear hR hown' hgrow hc5)
          go_roundw
          case rel => exact ⟨y + 1, by omega, by go_num, HRN⟩
          case measure => simp [intOf]; omega
    · have : y = H := by omega
      subst this
      obtain ⟨v, hv, hgv⟩ := HW.out.str
      obtain ⟨a', c', rfl, _⟩ := hgv.form
      rw [picRows_len] at *
      have hc5 := hv.cell
      have hc4 := HW.out.res.cell
      have hf4 := HW.out.res.free
      have hres := HW.out.res
      have hx4 := HW.out.ext.setCell (p := ⟨p4, 0, none⟩) HW.out.le4 (.slice a' y c')
      have ho4 := (hgv.setCell (a := ⟨p4, 0, none⟩) (hgv.ne hres (by decide)) (.slice a' y c')).own ByteArray.empty
      have hr4 := (hres.set (.slice a' y c')).cell
      have HX4 := Lib.hid hx4
      have HO4 := Lib.hid ho4
      clear hx4 ho4 hv hgv hres
      go_wp2
      exact bodyPost_ret (v := .agg #[.slice a' y c']) (by simp [results, Try.results114, go_sem, hr4]) rfl ⟨a', c', by rw [picRows_len], HX4.out, HO4.out⟩
end Go.Proofs.Ytpploijlijnahaa
