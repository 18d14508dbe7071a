/- The reference draws a picture with rings, of at most twelve rows and columns. -/
import Derived.Test.YthgkmaccbcpaeaaGenR
namespace Go.Proofs.Ythgkmaccbcpaeaa
open Go Go.RowKit
def fixR : List ByteArray := [⟨#[35, 35, 35]⟩, ⟨#[35, 46, 35]⟩, ⟨#[35, 35, 35]⟩]
theorem fixR_ok : PicIn 12 fixR := ⟨by decide, by decide, by decide⟩
theorem fixR_new (w : World) (e : TypeId) : GrowOf Value.string w.heap.size e (w.alloc (.cells #[.string ⟨#[35, 35, 35]⟩, .string ⟨#[35, 46, 35]⟩, .string ⟨#[35, 35, 35]⟩] e)) (.slice (some ⟨w.heap.size, 0, none⟩) 3 3) fixR :=
  ⟨by simp [fixR], .inr ⟨w.heap.size, 3, _, rfl, Nat.le_refl _, heap_alloc_new w _, Nat.le_refl _, by decide, by simp, by simp [fixR]⟩⟩
set_option maxRecDepth 5000 in
set_option maxHeartbeats 1600000 in
theorem b10Rings_any (a : Option Addr) (c : Nat) (zs : List Int) (w : World) (h : CodeAt w a zs) :
    Calls Try.prog 39 #[.slice a zs.length c] w (NewPic w (PicIn 12)) := by
  obtain ⟨W0, hW0⟩ : ∃ W0, W0 = w.alloc (.cells #[.slice none 0 0] 26) := ⟨_, rfl⟩
  have hx0 : w.Ext W0 := by rw [hW0]; repeat (first | exact World.Ext.refl _ | exact ⟨_, rfl⟩ | assumption | refine World.Ext.over ?_ _ | refine World.Ext.drewN ?_ _ | refine World.Ext.drew ?_ | refine World.Ext.alloc ?_ _ | refine World.Ext.setCell ?_ (by simp) _)
  have hone : One W0 w.heap.size 26 (.slice none 0 0) := by rw [hW0]; exact One.new _ _ _ _ rfl
  have hlt := hone.lt
  have HF := Lib.hid (from_any a c zs w W0 hx0 h)
  have HDR : Hid (∀ w', SrcSt w W0.heap.size 0 w' → Calls Try.prog 112 #[.pointer (some ⟨W0.heap.size, 0, none⟩)] w' (DrawnPic w w' W0.heap.size (0 + 3300) PicBnd)) := fun w' h2 => drawRings_any w W0.heap.size 0 w' (by omega) h2
  have HONE := Lib.hid hone
  clear hone h
  go_enter Try.func39, Try.ntmps39
  go_wp2_with fail
  rw [← hW0]
  clear hW0
  refine HF.out.mono ?_
  rintro e w1 ⟨rfl, hx1, hs⟩
  have HO1 := Lib.hid (HONE.out.ext hx1)
  have HC := Lib.hid (HDR.out w1 hs)
  have hlt1 : w.heap.size < w1.heap.size := HO1.out.lt
  clear hx1 hs HF HONE HDR
  go_wp2_with fail
  refine HC.out.mono ?_
  rintro e w2 ⟨a4, c4, ss, hb, rfl, hw, hs, hg⟩
  have ho := GrowOf.own ByteArray.empty hg
  have HX2 : Hid (w.Ext w2) := hs.x
  have HO2 := Lib.hid (HO1.out.keep (hw.block _ HO1.out.lt (by omega)))
  obtain ⟨w3, hw3⟩ : ∃ w3, w3 = w2.alloc (.cells #[.slice a4 ss.length c4] 26) := ⟨_, rfl⟩
  have hx3 : w2.Ext w3 := by rw [hw3]; repeat (first | exact World.Ext.refl _ | exact ⟨_, rfl⟩ | assumption | refine World.Ext.over ?_ _ | refine World.Ext.drewN ?_ _ | refine World.Ext.drew ?_ | refine World.Ext.alloc ?_ _ | refine World.Ext.setCell ?_ (by simp) _)
  have c3 : w3.cell? ⟨w2.heap.size, 0, none⟩ = some (.slice a4 ss.length c4) := by rw [hw3]; simp [go_sem]
  have HROW := Lib.hid (RowOf.ext ho.row hx3)
  have HOW := Lib.hid (hg.ext hx3)
  have HX3 := Lib.hid (HX2.out.trans hx3)
  have HO3 := Lib.hid (HO2.out.ext hx3)
  have hsz := hx3.size
  have HIS := Lib.hid (l01Is_any w2.heap.size a4 c4 ss w3 hb.1 hb.2 c3 HROW.out _ rfl)
  have hl1 := hw.size
  clear hw hs hg hx3 HC HO1 HX2 HO2 ho
  go_upto_region 3 with fail
  rw [← hw3]
  clear hw3
  generalize w2.heap.size = q4 at *
  have HFX : Hid (∀ w', w3.Ext w' → ∃ w5, w5 = w'.alloc (.cells #[.string ⟨#[35, 35, 35]⟩, .string ⟨#[35, 46, 35]⟩, .string ⟨#[35, 35, 35]⟩] 9) ∧ w5.cell? ⟨w.heap.size, 0, none⟩ = some (.slice none 0 0) ∧ w5.frozen? ⟨w.heap.size, 0, none⟩ = false ∧ (w5.setCell ⟨w.heap.size, 0, none⟩ (.slice (some ⟨w'.heap.size, 0, none⟩) 3 3)).cell? ⟨w.heap.size, 0, none⟩ = some (.slice (some ⟨w'.heap.size, 0, none⟩) 3 3) ∧ Hid (NewPic w (PicIn 12) (.returned (.agg #[.slice (some ⟨w'.heap.size, 0, none⟩) 3 3])) (w5.setCell ⟨w.heap.size, 0, none⟩ (.slice (some ⟨w'.heap.size, 0, none⟩) 3 3)))) := fun w' hx => by
    refine ⟨_, rfl, ?_⟩
    have hxa : w'.Ext (w'.alloc (.cells #[.string ⟨#[35, 35, 35]⟩, .string ⟨#[35, 46, 35]⟩, .string ⟨#[35, 35, 35]⟩] 9)) := by repeat (first | exact World.Ext.refl _ | exact ⟨_, rfl⟩ | assumption | refine World.Ext.over ?_ _ | refine World.Ext.drewN ?_ _ | refine World.Ext.drew ?_ | refine World.Ext.alloc ?_ _ | refine World.Ext.setCell ?_ (by simp) _)
    have ho := GrowOf.own ByteArray.empty (fixR_new w' 9)
    obtain ⟨r1, r2, r3, HR⟩ := Res.store (lo := w'.heap.size) (.slice (some ⟨w'.heap.size, 0, none⟩) 3 3) (HX3.out.trans (hx.trans hxa)) (Nat.le_refl _) (HO3.out.ext (hx.trans hxa)) (by have := (HO3.out.ext hx).lt; exact this) ho
    exact ⟨r1, r2, r3, _, 3, fixR, rfl, fixR_ok, HR.out.1, HR.out.2⟩
  have d3 := World.block_lt_of_cell? _ _ c3
  cases hok : picOk ss
  · rw [hok] at HIS
    clear hb hok HROW HOW HO3
    go_wp2_with fail
    refine HIS.out.mono ?_
    rintro e w4 ⟨rfl, hx4⟩
    obtain ⟨w5, hw5, r1, r2, r3, HR⟩ := HFX.out w4 hx4
    subst hw5
    clear hx4 HFX HIS c3 d3
    go_wp2
    exact bodyPost_ret (v := .agg #[.slice (some ⟨w4.heap.size, 0, none⟩) 3 3]) (by simp [results, Try.results39, go_sem, r3]) rfl HR.out
  · rw [hok] at HIS
    obtain ⟨v1, v2, v3, v4, v5, -⟩ := picOk_spec hok
    by_cases h12 : 12 < ss.length
    · have h12' : (12 : Int) < (ss.length : Int) := by omega
      clear hb hok HROW HOW HO3 v5
      go_wp2_with fail
      refine HIS.out.mono ?_
      rintro e w4 ⟨rfl, hx4⟩
      have c4' := hx4.cell c3
      have d4 := World.block_lt_of_cell? _ _ c4'
      obtain ⟨w5, hw5, r1, r2, r3, HR⟩ := HFX.out w4 hx4
      subst hw5
      clear hx4 HFX HIS c3 d3
      go_wp2
      exact bodyPost_ret (v := .agg #[.slice (some ⟨w4.heap.size, 0, none⟩) 3 3]) (by simp [results, Try.results39, go_sem, r3]) rfl HR.out
    · have h12' : ¬ (12 : Int) < (ss.length : Int) := by omega
      obtain ⟨rb, ro, rfl, hrc⟩ := HROW.out 0 (by omega)
      rw [Nat.add_zero] at hrc
      have hps : (ss.getD 0 ByteArray.empty).size = picW ss := rfl
      have HPIN : Hid (picW ss ≤ 12 → PicIn 12 ss) := fun h => ⟨hok, by omega, h⟩
      generalize ss.getD 0 ByteArray.empty = s0 at *
      clear hb hok HROW v5
      have hx0' : (0 : Int) < (ss.length : Int) := by omega
      by_cases hw12 : 12 < picW ss
      · have hw12' : (12 : Int) < (s0.size : Int) := by omega
        clear HOW HO3 HPIN
        go_wp2_with fail
        refine HIS.out.mono ?_
        rintro e w4 ⟨rfl, hx4⟩
        have c4' := hx4.cell c3
        have d4 := World.block_lt_of_cell? _ _ c4'
        have r4 := hx4.cell hrc
        have d5 := World.block_lt_of_cell? _ _ r4
        obtain ⟨w5, hw5, r1, r2, r3, HR⟩ := HFX.out w4 hx4
        subst hw5
        clear hx4 HFX HIS c3 d3 hrc
        go_wp2
        exact bodyPost_ret (v := .agg #[.slice (some ⟨w4.heap.size, 0, none⟩) 3 3]) (by simp [results, Try.results39, go_sem, r3]) rfl HR.out
      · have hw12' : ¬ (12 : Int) < (s0.size : Int) := by omega
        have HP2 := Lib.hid (HPIN.out (by omega))
        clear HFX HPIN
        go_wp2_with fail
        refine HIS.out.mono ?_
        rintro e w4 ⟨rfl, hx4⟩
        have c4' := hx4.cell c3
        have r4 := hx4.cell hrc
        obtain ⟨r1, r2, r3, HR⟩ := Res.store (lo := w1.heap.size) (.slice (some ⟨rb, ro, none⟩) ss.length c4) (HX3.out.trans hx4) (Nat.le_refl _) (HO3.out.ext hx4) hlt1 (GrowOf.own ByteArray.empty (HOW.out.ext hx4))
        clear hx4 HIS c3 d3 hrc HOW
        go_wp2
        exact bodyPost_ret (v := .agg #[.slice (some ⟨rb, ro, none⟩) ss.length c4]) (by simp [results, Try.results39, go_sem, r3]) rfl ⟨_, c4, ss, rfl, HP2.out, HR.out.1, HR.out.2⟩
end Go.Proofs.Ythgkmaccbcpaeaa
