/- PictureOfBorders, both sides, of any arguments. -/
import Derived.Test.YthgkmaccbcpaeaaPobG
import Derived.Test.YthgkmaccbcpaeaaPobT
import Derived.Test.YthgkmaccbcpaeaaLBa
namespace Go.Proofs.Ythgkmaccbcpaeaa
open Go Go.RowKit
open Classical in
noncomputable def pobOk (i0 i1 : Int) (bs : List Bord) : Bool := decide (sizeB i0 i1 = true ∧ bs.length ≤ 150 ∧ PobOk i0.toNat i1.toNat bs)
noncomputable def pobRows (i0 i1 : Int) (bs : List Bord) : List ByteArray := if pobOk i0 i1 bs then picRows i0.toNat i1.toNat (picG (allG bs) i0.toNat i1.toNat) else []
open Classical in
theorem pobOk_size {i0 i1 : Int} {bs : List Bord} (h : sizeB i0 i1 = false) : pobOk i0 i1 bs = false := by
  unfold pobOk
  exact decide_eq_false fun h2 => by rw [h] at h2; cases h2.1
open Classical in
theorem pobOk_many {i0 i1 : Int} {bs : List Bord} (h : 150 < bs.length) : pobOk i0 i1 bs = false := by
  unfold pobOk
  exact decide_eq_false fun h2 => by omega
theorem pobRows_no {i0 i1 : Int} {bs : List Bord} (h : pobOk i0 i1 bs = false) : pobRows i0 i1 bs = [] := by unfold pobRows; rw [h]; rfl
open Classical in
theorem pobRows_bnd (i0 i1 : Int) (bs : List Bord) : (pobRows i0 i1 bs).length ≤ 1048576 := by
  unfold pobRows
  split
  · rename_i h
    unfold pobOk at h
    have h := (of_decide_eq_true h).1
    unfold sizeB at h
    rw [Bool.and_eq_true, inB_true, inB_true] at h
    rw [picRows_len]
    omega
  · simp
open Classical in
theorem pobOk_any {W H : Nat} {bs : List Bord} {t : Bool} (hs : sizeB (W : Int) (H : Int) = true) (hn : bs.length ≤ 150) (h : t = true ↔ PobOk W H bs) : pobOk W H bs = t := by
  unfold pobOk
  rw [Int.toNat_natCast, Int.toNat_natCast]
  cases t
  · exact decide_eq_false fun h2 => by have := h.2 h2.2.2; cases this
  · exact decide_eq_true ⟨hs, hn, h.1 rfl⟩
theorem PobRet.all {w w' : World} {W H : Nat} {bs : List Bord} {e : Ending} (hs : sizeB (W : Int) (H : Int) = true) (hn : bs.length ≤ 150) (h : PobRet w W H bs e w') : PicRet2 w (pobRows W H bs) (pobOk W H bs) e w' := by
  obtain ⟨t, ht, hr⟩ := h
  unfold pobRows
  rw [pobOk_any hs hn ht, Int.toNat_natCast, Int.toNat_natCast]
  exact hr
theorem PobRet2.all {w w' : World} {W H : Nat} {bs : List Bord} {e : Ending} (hs : sizeB (W : Int) (H : Int) = true) (hW1 : 1 ≤ W) (hW : W ≤ 16) (hH : H ≤ 16) (hn : bs.length ≤ 150) (h : PobRet2 w W H bs e w') : PicRet2 w (pobRows W H bs) (pobOk W H bs) e w' := by
  obtain ⟨t, ht, hr⟩ := h
  obtain ⟨h1, h2⟩ := pob_same (B := bs) hW1 hW hH
  refine PobRet.all hs hn ⟨t, ht.trans h1.symm, ?_⟩
  cases t
  · exact hr
  · rw [if_pos rfl, h2 (h1.2 (ht.1 rfl))]
    rw [if_pos rfl] at hr
    exact hr
set_option maxRecDepth 5000 in
set_option maxHeartbeats 1600000 in
theorem implPOB_any (i0 i1 : Int) (a : Option Addr) (c : Nat) (bs : List Bord) (w : World) (hb : BdBnd bs) (hm : RowBd w a bs) :
    Calls Try.prog 31 #[.int .i64 i0, .int .i64 i1, .slice a bs.length c] w (PicRet2 w (pobRows i0 i1 bs) (pobOk i0 i1 bs)) := by
  obtain ⟨W0, hW0⟩ : ∃ W0, W0 = w.alloc (.cells #[.slice none 0 0] 26) := ⟨_, rfl⟩
  have hx0 : w.Ext W0 := by rw [hW0]; repeat (first | exact World.Ext.refl _ | exact ⟨_, rfl⟩ | assumption | refine World.Ext.over ?_ _ | refine World.Ext.drewN ?_ _ | refine World.Ext.drew ?_ | refine World.Ext.alloc ?_ _ | refine World.Ext.setCell ?_ (by simp) _)
  have hone : One W0 w.heap.size 26 (.slice none 0 0) := by rw [hW0]; exact One.new _ _ _ _ rfl
  have HX0 := Lib.hid hx0
  have HO := Lib.hid hone
  have hlen := hb.1
  cases hs : sizeB i0 i1
  · have HSZ := Lib.hid (sizeOk_any i0 i1 W0 false hs)
    have ho := pobOk_size (bs := bs) hs
    rw [pobRows_no ho, ho]
    clear hb hm hx0 hone hs ho
    go_enter Try.func31, Try.ntmps31
    go_wp2_with fail
    rw [← hW0]
    clear hW0
    refine HSZ.out.mono ?_
    rintro e w1 ⟨rfl, hx1⟩
    obtain ⟨r1, r2, r3, HR⟩ := One.noPic (HX0.out.trans hx1) (Nat.le_refl _) (HO.out.ext hx1)
    clear hx1
    go_wp2
    exact bodyPost_ret (v := .tuple #[.agg #[.slice none 0 0], .bool false]) (by simp [results, Try.results31, go_sem, r3]) rfl (PicRet2.no HR.out)
  · by_cases hn : bs.length ≤ 150
    · have hs2 := hs
      unfold sizeB at hs2
      rw [Bool.and_eq_true, inB_true, inB_true] at hs2
      obtain ⟨W, rfl⟩ := Int.eq_ofNat_of_zero_le (show 0 ≤ i0 by omega)
      obtain ⟨H, rfl⟩ := Int.eq_ofNat_of_zero_le (show 0 ≤ i1 by omega)
      exact (pobG_any a c bs.length W H bs w (by omega) (by omega) (by omega) (by omega) rfl hn hb.2 hm).mono fun e w' h => h.all hs hn
    · have HSZ := Lib.hid (sizeOk_any i0 i1 W0 true hs)
      have ho := pobOk_many (i0 := i0) (i1 := i1) (bs := bs) (by omega)
      rw [pobRows_no ho, ho]
      have hn2 : (150 : Int) < (bs.length : Int) := by omega
      clear hb hm hx0 hone hs ho
      go_enter Try.func31, Try.ntmps31
      go_wp2_with fail
      rw [← hW0]
      clear hW0
      refine HSZ.out.mono ?_
      rintro e w1 ⟨rfl, hx1⟩
      obtain ⟨r1, r2, r3, HR⟩ := One.noPic (HX0.out.trans hx1) (Nat.le_refl _) (HO.out.ext hx1)
      clear hx1
      go_wp2
      exact bodyPost_ret (v := .tuple #[.agg #[.slice none 0 0], .bool false]) (by simp [results, Try.results31, go_sem, r3]) rfl (PicRet2.no HR.out)
set_option maxRecDepth 5000 in
set_option maxHeartbeats 1600000 in
theorem specPOB_any (i0 i1 : Int) (a : Option Addr) (c : Nat) (bs : List Bord) (w : World) (hb : BdBnd bs) (hm : RowBd w a bs) :
    Calls Try.prog 50 #[.int .i64 i0, .int .i64 i1, .slice a bs.length c] w (PicRet2 w (pobRows i0 i1 bs) (pobOk i0 i1 bs)) := by
  obtain ⟨W0, hW0⟩ : ∃ W0, W0 = w.alloc (.cells #[.slice none 0 0] 26) := ⟨_, rfl⟩
  have hx0 : w.Ext W0 := by rw [hW0]; repeat (first | exact World.Ext.refl _ | exact ⟨_, rfl⟩ | assumption | refine World.Ext.over ?_ _ | refine World.Ext.drewN ?_ _ | refine World.Ext.drew ?_ | refine World.Ext.alloc ?_ _ | refine World.Ext.setCell ?_ (by simp) _)
  have hone : One W0 w.heap.size 26 (.slice none 0 0) := by rw [hW0]; exact One.new _ _ _ _ rfl
  have HX0 := Lib.hid hx0
  have HO := Lib.hid hone
  have hlen := hb.1
  have HSD := Lib.hid (fun z w' t (ht : inB z 1 16 = t) => l01Side_any z w' t ht)
  cases h0 : inB i0 1 16
  · have ho := pobOk_size (bs := bs) (show sizeB i0 i1 = false by unfold sizeB; rw [h0]; rfl)
    have HC0 := Lib.hid (HSD.out i0 W0 _ h0)
    rw [pobRows_no ho, ho]
    clear hb hm hx0 hone h0 ho HSD
    go_enter Try.func50, Try.ntmps50
    go_wp2_with fail
    rw [← hW0]
    clear hW0
    refine HC0.out.mono ?_
    rintro e w1 ⟨rfl, hx1⟩
    obtain ⟨r1, r2, r3, HR⟩ := One.noPic (HX0.out.trans hx1) (Nat.le_refl _) (HO.out.ext hx1)
    clear hx1
    go_wp2
    exact bodyPost_ret (v := .tuple #[.agg #[.slice none 0 0], .bool false]) (by simp [results, Try.results50, go_sem, r3]) rfl (PicRet2.no HR.out)
  cases h1 : inB i1 1 16
  · have ho := pobOk_size (bs := bs) (show sizeB i0 i1 = false by unfold sizeB; rw [h1, Bool.and_false])
    have HC0 := Lib.hid (HSD.out i0 W0 _ h0)
    have HC1 := Lib.hid (fun w' => HSD.out i1 w' _ h1)
    rw [pobRows_no ho, ho]
    clear hb hm hx0 hone h0 h1 ho HSD
    go_enter Try.func50, Try.ntmps50
    go_wp2_with fail
    rw [← hW0]
    clear hW0
    refine HC0.out.mono ?_
    rintro e w1 ⟨rfl, hx1⟩
    go_wp2_with fail
    refine (HC1.out w1).mono ?_
    rintro e w2 ⟨rfl, hx2⟩
    obtain ⟨r1, r2, r3, HR⟩ := One.noPic (HX0.out.trans (hx1.trans hx2)) (Nat.le_refl _) (HO.out.ext (hx1.trans hx2))
    clear hx1 hx2
    go_wp2
    exact bodyPost_ret (v := .tuple #[.agg #[.slice none 0 0], .bool false]) (by simp [results, Try.results50, go_sem, r3]) rfl (PicRet2.no HR.out)
  have hs : sizeB i0 i1 = true := by unfold sizeB; rw [h0, h1]; rfl
  by_cases hn : bs.length ≤ 150
  · obtain ⟨sW1, sW2⟩ := inB_true.1 h0
    obtain ⟨sH1, sH2⟩ := inB_true.1 h1
    obtain ⟨W, rfl⟩ := Int.eq_ofNat_of_zero_le (show 0 ≤ i0 by omega)
    obtain ⟨H, rfl⟩ := Int.eq_ofNat_of_zero_le (show 0 ≤ i1 by omega)
    exact (specPob_any a c bs.length W H bs w (by omega) (by omega) (by omega) (by omega) rfl hn hm).mono fun e w' h => h.all hs (by omega) (by omega) (by omega) hn
  · have ho := pobOk_many (i0 := i0) (i1 := i1) (bs := bs) (by omega)
    have HC0 := Lib.hid (HSD.out i0 W0 _ h0)
    have HC1 := Lib.hid (fun w' => HSD.out i1 w' _ h1)
    rw [pobRows_no ho, ho]
    have hn2 : (150 : Int) < (bs.length : Int) := by omega
    clear hb hm hx0 hone h0 h1 ho HSD hs
    go_enter Try.func50, Try.ntmps50
    go_wp2_with fail
    rw [← hW0]
    clear hW0
    refine HC0.out.mono ?_
    rintro e w1 ⟨rfl, hx1⟩
    go_wp2_with fail
    refine (HC1.out w1).mono ?_
    rintro e w2 ⟨rfl, hx2⟩
    obtain ⟨r1, r2, r3, HR⟩ := One.noPic (HX0.out.trans (hx1.trans hx2)) (Nat.le_refl _) (HO.out.ext (hx1.trans hx2))
    clear hx1 hx2
    go_wp2
    exact bodyPost_ret (v := .tuple #[.agg #[.slice none 0 0], .bool false]) (by simp [results, Try.results50, go_sem, r3]) rfl (PicRet2.no HR.out)
end Go.Proofs.Ythgkmaccbcpaeaa
