/- Borders: the program's list of them, whole. -/
import Derived.Test.YtahhnjoeaodcjaaBrdT
namespace Go.Proofs.Ytahhnjoeaodcjaa
open Go Go.RowKit Go.MapKept Go.ChangeMaps
theorem DnOk.zero (f : Int → Int → Bool) (W : Nat) : DnOk f W 0 (fun _ => none) := ⟨fun e => rfl, fun e v h => by cases h⟩
theorem enters_borders1 : Enters 208 := enters_of Try.func208 (by kernel_rfl) (by kernel_rfl)
set_option maxRecDepth 5000 in
set_option maxHeartbeats 3200000 in
theorem borders_any (b ab W H : Nat) (l : List Bool) (w : World) (hW : W ≤ 16) (hH : H ≤ 16) (hI : Img w b ab W H l) :
    Calls Try.prog 134 #[.pointer (some ⟨b, 0, none⟩)] w (BordsRet w (brds (pxl W H l) W (H * W))) := by
  obtain ⟨W0, hW0⟩ : ∃ W0, W0 = w.alloc (.cells #[] 69) := ⟨_, rfl⟩
  have hx0 : w.Ext W0 := by rw [hW0]; repeat (first | exact World.Ext.refl _ | exact ⟨_, rfl⟩ | assumption | refine World.Ext.over ?_ _ | refine World.Ext.drewN ?_ _ | refine World.Ext.drew ?_ | refine World.Ext.alloc ?_ _ | refine World.Ext.setCell ?_ (by simp) _)
  have hz0 : W0.heap.size = w.heap.size + 1 := by rw [hW0]; simp
  have hg0 : GrowBd w.heap.size W0 (.slice (some ⟨w.heap.size, 0, none⟩) 0 0) [] := by rw [hW0]; exact GrowBd.empty w (Nat.le_refl _)
  have HSD := Lib.hid (sides_any b ab W H l W0 (by omega) (by omega) (hI.ext hx0))
  have HKEY : Hid (∀ w2 mo go, W0.Ext w2 → W0.heap.size ≤ mo → SdOk (pxl W H l) go → MapE w2 Try.prog 180 mo go →
      Calls Try.prog 107 #[.pointer (some ⟨b, 0, none⟩), .func (.func 208) #[] #[.pointer (some ⟨w2.heap.size + 1 + 1, 0, none⟩), .pointer (some ⟨w2.heap.size + 1 + 1 + 1, 0, none⟩), .pointer (some ⟨w2.heap.size + 1, 0, none⟩)]]
        (((((w2.alloc (.map #[] 0)).alloc (.cells #[.slice (some ⟨w.heap.size, 0, none⟩) 0 0] 76)).alloc (.cells #[.map (some mo)] 214)).alloc (.cells #[.map (some w2.heap.size)] 214)))
        fun e w' => e = .returned (.tuple #[]) ∧ BoSt w (w2.heap.size + 1 + 1) (w2.heap.size + 1 + 1 + 1) (w2.heap.size + 1) mo w2.heap.size go (pxl W H l) W (H * W) w') := fun w2 mo go hx2 hmo hgo hm => by
    have hlm := hm.lt
    have hsz := hx2.size
    obtain ⟨W3, hW3⟩ : ∃ W3, W3 = w2.alloc (.map #[] 0) := ⟨_, rfl⟩
    have hz3 : W3.heap.size = w2.heap.size + 1 := by rw [hW3]; simp
    have hx3 : w2.Ext W3 := by rw [hW3]; repeat (first | exact World.Ext.refl _ | exact ⟨_, rfl⟩ | assumption | refine World.Ext.over ?_ _ | refine World.Ext.drewN ?_ _ | refine World.Ext.drew ?_ | refine World.Ext.alloc ?_ _ | refine World.Ext.setCell ?_ (by simp) _)
    have hm3 : MapE W3 Try.prog 180 w2.heap.size (fun _ => none) := by rw [hW3]; exact MapE.new w2 _ _ _ rfl
    rw [← hW3]
    obtain ⟨W4, hW4⟩ : ∃ W4, W4 = W3.alloc (.cells #[.slice (some ⟨w.heap.size, 0, none⟩) 0 0] 76) := ⟨_, rfl⟩
    have hz4 : W4.heap.size = w2.heap.size + 1 + 1 := by rw [hW4]; simp [hz3]
    have hx4 : W3.Ext W4 := by rw [hW4]; repeat (first | exact World.Ext.refl _ | exact ⟨_, rfl⟩ | assumption | refine World.Ext.over ?_ _ | refine World.Ext.drewN ?_ _ | refine World.Ext.drew ?_ | refine World.Ext.alloc ?_ _ | refine World.Ext.setCell ?_ (by simp) _)
    have h3 : One W4 (w2.heap.size + 1) 76 (.slice (some ⟨w.heap.size, 0, none⟩) 0 0) := by rw [hW4]; exact One.new _ _ _ _ hz3.symm
    rw [← hW4]
    obtain ⟨W5, hW5⟩ : ∃ W5, W5 = W4.alloc (.cells #[.map (some mo)] 214) := ⟨_, rfl⟩
    have hz5 : W5.heap.size = w2.heap.size + 1 + 1 + 1 := by rw [hW5]; simp [hz4]
    have hx5 : W4.Ext W5 := by rw [hW5]; repeat (first | exact World.Ext.refl _ | exact ⟨_, rfl⟩ | assumption | refine World.Ext.over ?_ _ | refine World.Ext.drewN ?_ _ | refine World.Ext.drew ?_ | refine World.Ext.alloc ?_ _ | refine World.Ext.setCell ?_ (by simp) _)
    have h4 : One W5 (w2.heap.size + 1 + 1) 214 (.map (some mo)) := by rw [hW5]; exact One.new _ _ _ _ hz4.symm
    rw [← hW5]
    obtain ⟨W6, hW6⟩ : ∃ W6, W6 = W5.alloc (.cells #[.map (some w2.heap.size)] 214) := ⟨_, rfl⟩
    have hx6 : W5.Ext W6 := by rw [hW6]; repeat (first | exact World.Ext.refl _ | exact ⟨_, rfl⟩ | assumption | refine World.Ext.over ?_ _ | refine World.Ext.drewN ?_ _ | refine World.Ext.drew ?_ | refine World.Ext.alloc ?_ _ | refine World.Ext.setCell ?_ (by simp) _)
    have h5 : One W6 (w2.heap.size + 1 + 1 + 1) 214 (.map (some w2.heap.size)) := by rw [hW6]; exact One.new _ _ _ _ hz5.symm
    rw [← hW6]
    have hx36 : W3.Ext W6 := hx4.trans (hx5.trans hx6)
    have hbx : InBx (pxl W H l) 16 16 := fun x y h => by
      have := inBx_pxl W H l x y h
      omega
    exact each_any b 208 W H _ (fun k w' => BoSt w (w2.heap.size + 1 + 1) (w2.heap.size + 1 + 1 + 1) (w2.heap.size + 1) mo w2.heap.size go (pxl W H l) W k w') W6 (by omega) (by omega) enters_borders1
      (fun k w' h => ⟨(hI.ext h.x).c0, (hI.ext h.x).c1⟩)
      (fun x y w' hx hy h => borders1_any w _ _ _ mo _ W H x y go _ w' hbx hW hH hx hy hgo (by omega) (by omega) (by omega) (by omega) (by omega) h)
      ⟨hx0.trans (hx2.trans (hx3.trans hx36)), h4.ext hx6, h5, hm.ext (hx3.trans hx36), ⟨_, hm3.ext hx36, DnOk.zero _ _⟩, _, h3.ext (hx5.trans hx6), World.ownsRow.ext (World.ownsRow.ext hg0 hx2) (hx3.trans hx36)⟩
  have HX0 := Lib.hid hx0
  clear hI hx0 hg0
  have hmm := @run_makeMap Try.prog
  go_enter Try.func134, Try.ntmps134
  go_wp2_with fail
  rw [← hW0]
  refine HSD.out.mono ?_
  rintro e w2 ⟨mo, go, rfl, hx2, hmo, hgo, hm2⟩
  have HEA := Lib.hid (HKEY.out w2 mo go hx2 hmo hgo hm2)
  have HX2 := Lib.hid (HX0.out.trans hx2)
  clear hW0 HSD hx2 hmo hgo hm2 HKEY
  go_wp2_with fail
  refine HEA.out.mono ?_
  rintro e w3 ⟨rfl, hs3⟩
  obtain ⟨v, h3, hg⟩ := hs3.g
  obtain ⟨a, c, rfl, -⟩ := World.ownsRow.form hg
  have c3 := h3.cell
  have l3 := h3.lt
  have HX := Lib.hid hs3.x
  have HG := Lib.hid (GrowBd.own hg)
  clear hs3 h3 hg HEA hmm
  generalize brds (pxl W H l) W (H * W) = R at *
  go_wp2
  go_ret
  exact ⟨a, c, rfl, HX.out, HG.out⟩
set_option maxRecDepth 5000 in
set_option maxHeartbeats 1600000 in
theorem implBorders_any (a : Option Addr) (c : Nat) (ss : List ByteArray) (w : World) (hb : PicBnd ss) (hm : RowS w a ss) :
    Calls Try.prog 48 #[.agg #[.slice a ss.length c]] w (BordsRet2 w (optBd (picOk ss) (bordA ss)) (picOk ss)) := by
  obtain ⟨W0, hW0⟩ : ∃ W0, W0 = w.alloc (.cells #[.slice a ss.length c] 26) := ⟨_, rfl⟩
  have hx0 : w.Ext W0 := by rw [hW0]; repeat (first | exact World.Ext.refl _ | exact ⟨_, rfl⟩ | assumption | refine World.Ext.over ?_ _ | refine World.Ext.drewN ?_ _ | refine World.Ext.drew ?_ | refine World.Ext.alloc ?_ _ | refine World.Ext.setCell ?_ (by simp) _)
  have HIO : Hid (Calls Try.prog 90 #[.agg #[.slice a ss.length c]] W0 (ImgOf W0 ss (picOk ss))) := imageOf_any a c ss W0 hb.1 hb.2 (hm.ext hx0) _ rfl
  have HX0 := Lib.hid hx0
  cases h : picOk ss
  · rw [h] at HIO
    clear hb hm hx0 h
    show Calls _ _ _ _ (BordsRet2 w [] false)
    go_enter Try.func48, Try.ntmps48
    go_wp2_with fail
    rw [← hW0]
    refine HIO.out.mono ?_
    rintro e w1 ⟨rfl, hx1⟩
    have HR : Hid (BordsRet2 w [] false (.returned (.tuple #[.slice none 0 0, .bool false])) w1) := ⟨none, 0, rfl, HX0.out.trans hx1, OwnBd.nil _ _⟩
    clear hx1 hW0
    go_wp2
    go_ret2
    exact HR.out
  · rw [h] at HIO
    obtain ⟨v1, v2, v3, v4, e1, -⟩ := picOk_spec h
    have HAR : Hid (∀ w' b ab, Img w' b ab (picW ss) ss.length (picL ss) → Calls Try.prog 134 #[.pointer (some ⟨b, 0, none⟩)] w' (BordsRet w' (bordA ss))) := fun w' b ab hI => borders_any b ab _ _ _ w' v4 v2 hI
    clear hb hm hx0 h v1 v2 v3 v4 e1
    show Calls _ _ _ _ (BordsRet2 w (bordA ss) true)
    generalize bordA ss = R at *
    go_enter Try.func48, Try.ntmps48
    go_wp2_with fail
    rw [← hW0]
    refine HIO.out.mono ?_
    rintro e w1 ⟨b1, ab1, rfl, hx1, hi1, -, -⟩
    have HC := Lib.hid (HAR.out w1 b1 ab1 hi1)
    have HX1 := Lib.hid (HX0.out.trans hx1)
    clear hi1 hx1 hW0
    go_wp2_with fail
    refine HC.out.mono ?_
    rintro e w3 ⟨a3, c3, rfl, hx3, ho3⟩
    have HR : Hid (BordsRet2 w R true (.returned (.tuple #[.slice a3 R.length c3, .bool true])) w3) := ⟨a3, c3, rfl, HX1.out.trans hx3, ho3.mono HX1.out.size (Nat.le_refl _)⟩
    clear hx3 ho3
    go_wp2
    go_ret2
    exact HR.out
end Go.Proofs.Ytahhnjoeaodcjaa
