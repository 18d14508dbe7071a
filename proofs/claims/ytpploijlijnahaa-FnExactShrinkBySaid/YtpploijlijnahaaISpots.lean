/- The program's black pixels of an image. -/
import Derived.Test.YtpploijlijnahaaGrowP
import Derived.Test.YtpploijlijnahaaIImgs
namespace Go
open Go.RowKit
theorem cell_two_at {w : World} {u v : Value} {e : TypeId} {p : Nat} (hp : p = w.heap.size) : ∀ (j : Nat) (x : Value), [u, v][j]? = some x → (w.alloc (.cells #[u, v] e)).cell? ((⟨p, 0, none⟩ : Addr).add j) = some x := by
  subst hp
  intro j x hj
  rw [Addr.add_mk]
  match j, hj with
  | 0, hj => simp at hj; subst hj; simp [go_sem]
  | 1, hj => simp at hj; subst hj; simp [go_sem]
  | j + 2, hj => simp at hj
end Go
namespace Go.Proofs.Ytpploijlijnahaa
open Go.RowKit
theorem Try.infoSpot : (Try.prog.info? 52).map (fun i => (i.zero, i.size, i.bytes)) = some (some (.agg #[.int .i64 0, .int .i64 0]), 2, 16) := by kernel_rfl
structure SpSt (w : World) (p1 p3 b W : Nat) (l : List Bool) (k : Nat) (wr : World) : Prop where
  x : w.Ext wr
  one : One wr p1 95 (.pointer (some ⟨b, 0, none⟩))
  grow : ∃ v, One wr p3 34 v ∧ GrowP w.heap.size 52 wr v (spotsTo W l k)
theorem spotsTo_len (W : Nat) (l : List Bool) (k : Nat) : (spotsTo W l k).length ≤ k := by
  unfold spotsTo
  rw [List.length_map]
  exact Nat.le_trans (List.length_filter_le _ _) (by simp)
set_option maxRecDepth 5000 in
set_option maxHeartbeats 1600000 in
theorem spots1_any (w : World) (p1 p3 b ab W H : Nat) (l : List Bool) (x y : Nat) (wr : World) (hW : W ≤ 64) (hH : H ≤ 64) (hI : Img w b ab W H l) (hx : x < W) (hy : y < H) (h3 : w.heap.size ≤ p3) (h13 : p1 ≠ p3) (hS : SpSt w p1 p3 b W l (y * W + x) wr) :
    Calls Try.prog 184 #[.int .i64 x, .int .i64 y, .pointer (some ⟨p1, 0, none⟩), .pointer (some ⟨p3, 0, none⟩)] wr fun e w' => e = .returned (.tuple #[]) ∧ SpSt w p1 p3 b W l (y * W + x + 1) w' := by
  obtain ⟨i0, hi, hz0, hz1, hz2⟩ := info_parts Try.infoSpot
  obtain ⟨hX, h1, v, hv, hg⟩ := hS
  have HG := Lib.hid (get_any b ab W H l x y wr hW hH (hI.ext hX) _ (pxl_at _ _ _ _ _ hx hy))
  have hk : y * W + x < 4096 := by
    have h5 : y * W ≤ 63 * 64 := Nat.mul_le_mul (by omega) hW
    omega
  have hn := spotsTo_len W l (y * W + x)
  have c1 := h1.cell
  have l1 := h1.lt
  have HX := Lib.hid hX
  have H1 := Lib.hid h1
  have HV := Lib.hid hv
  have HGR := Lib.hid hg
  clear hX h1 hv hg hI
  cases hb : l.getD (y * W + x) false
  · rw [hb] at HG
    have HN := Lib.hid (spotsTo_no (W := W) hb)
    clear hb hn
    go_enter Try.func184, Try.ntmps184
    go_wp2_with fail
    refine HG.out.mono ?_
    rintro e w2 ⟨rfl, hx2⟩
    have HS : Hid (SpSt w p1 p3 b W l (y * W + x + 1) w2) := ⟨HX.out.trans hx2, H1.out.ext hx2, v, HV.out.ext hx2, by rw [HN.out]; exact HGR.out.ext hx2⟩
    clear hx2
    go_wp2
    go_end0
    exact ⟨rfl, HS.out⟩
  · rw [hb] at HG
    have HN := Lib.hid (spotsTo_yes hx hb)
    have HB1 : Hid ((spotsTo W l (y * W + x)).length + 1 ≤ maxLen) := by show _ ≤ _; unfold maxLen; omega
    have HB2 : Hid (((spotsTo W l (y * W + x)).length + 1) * 16 ≤ 140737488355328) := by show _ ≤ _; omega
    clear hb hn hk
    go_enter Try.func184, Try.ntmps184
    go_wp2_with fail
    refine HG.out.mono ?_
    rintro e w2 ⟨rfl, hx2⟩
    have H12 := Lib.hid (H1.out.ext hx2)
    have HV2 := Lib.hid (HV.out.ext hx2)
    have hg2 := HGR.out.ext hx2
    have HG2 := Lib.hid hg2
    have HX2 := Lib.hid (HX.out.trans hx2)
    have c3 := HV2.out.cell
    have f3 := HV2.out.free
    have l3 := HV2.out.lt
    unfold GrowP at hg2
    have hown := hg2
    have hnext : ∀ (o' : Obj) (v' : Value) (w1 : World), (w2.alloc o').grownBy w1 v.ownBlock → w1.ownsRow w.heap.size 52 2 v' ((spotsTo W l (y * W + x)).length + 1) ((flatP (spotsTo W l (y * W + x))).map (Value.int .i64) ++ [.int .i64 x, .int .i64 y]) →
        w1.cell? ⟨p3, 0, none⟩ = some v ∧ w1.frozen? ⟨p3, 0, none⟩ = false ∧ Hid (SpSt w p1 p3 b W l (y * W + x + 1) (w1.setCell ⟨p3, 0, none⟩ v')) := fun o' v' w1 hgrow hown' => by
      have a1 := (H12.out.ext ((World.Ext.refl _).alloc o')).grown hgrow (World.ownsRow.ne HG2.out H12.out (by decide))
      have a3 := (HV2.out.ext ((World.Ext.refl _).alloc o')).grown hgrow (World.ownsRow.ne HG2.out HV2.out (by decide))
      have ax := World.ownsRow.pushExt HG2.out HX2.out hgrow
      have ag : GrowP w.heap.size 52 w1 v' (spotsTo W l (y * W + x) ++ [((x : Int), (y : Int))]) := GrowP.push hown'
      refine ⟨a3.cell, a3.free, ax.setCell (p := ⟨p3, 0, none⟩) h3 v', a1.other (a := ⟨p3, 0, none⟩) (Ne.symm h13) v', v', a3.set v', ?_⟩
      rw [HN.out]
      exact ag.setCell (a := ⟨p3, 0, none⟩) (World.ownsRow.ne ag a3 (by decide)) v'
    have HNEXT := Lib.hid hnext
    have HLE : ∀ o' : Obj, w.heap.size ≤ (w2.alloc o').heap.size := fun o' => (HX2.out.alloc o').size
    clear hnext hx2 HX HV HGR H1 hg2 c1 l1
    have c1 := H12.out.cell
    have l1 := H12.out.lt
    generalize spotsTo W l (y * W + x) = ps at *
    go_wp2_with (at_builtin; refine wpList_append_own _ rfl _ _ 34 rfl w.heap.size 52 i0 (.agg #[.int .i64 0, .int .i64 0]) 2 16 Try.underlying34 hi hz0 hz1 hz2 rfl (by decide) _ _ _ rfl (hown.alloc _) ⟨w2.heap.size, 0, none⟩ 1 1 [.int .i64 x, .int .i64 y] rfl rfl (cell_two_at (by simp)) (by simp [Value.oneCell']) HB1.out HB2.out (HLE _) (fun v' w1 hown' hgrow _ => ?_); obtain ⟨d3, e3, HS⟩ := HNEXT.out _ _ _ hgrow hown'; obtain ⟨a4, c4, rfl, _⟩ := World.ownsRow.form hown'; clear hgrow hown' hown c3 f3 c1 l1 l3)
    go_end0
    exact ⟨rfl, HS.out⟩
theorem enters_spots1 : Enters 184 := enters_of Try.func184 (by kernel_rfl) (by kernel_rfl)
/-- Pairs are returned, in new memory. -/
def PairsRet (w : World) (ps : List (Int × Int)) (e : Ending) (w' : World) : Prop := ∃ a c, e = .returned (.slice a ps.length c) ∧ w.Ext w' ∧ OwnP w.heap.size w'.heap.size w' a ps
set_option maxRecDepth 5000 in
set_option maxHeartbeats 1600000 in
theorem spots_any (b ab W H : Nat) (l : List Bool) (w : World) (hW : W ≤ 64) (hH : H ≤ 64) (hI : Img w b ab W H l) :
    Calls Try.prog 143 #[.pointer (some ⟨b, 0, none⟩)] w (PairsRet w (spotsTo W l (H * W))) := by
  obtain ⟨W0, hW0⟩ : ∃ W0, W0 = ((w.alloc (.cells #[.pointer (some ⟨b, 0, none⟩)] 95)).alloc (.cells #[] 52)).alloc (.cells #[.slice (some ⟨w.heap.size + 1, 0, none⟩) 0 0] 34) := ⟨_, rfl⟩
  have hx0 : w.Ext W0 := by rw [hW0]; repeat (first | exact World.Ext.refl _ | exact ⟨_, rfl⟩ | assumption | refine World.Ext.over ?_ _ | refine World.Ext.drewN ?_ _ | refine World.Ext.drew ?_ | refine World.Ext.alloc ?_ _ | refine World.Ext.setCell ?_ (by simp) _)
  have h1 : One W0 w.heap.size 95 (.pointer (some ⟨b, 0, none⟩)) := by
    rw [hW0]
    exact ((One.new w _ _ _ rfl).ext ((World.Ext.refl _).alloc _)).ext ((World.Ext.refl _).alloc _)
  have h3 : One W0 (w.heap.size + 1 + 1) 34 (.slice (some ⟨w.heap.size + 1, 0, none⟩) 0 0) := by
    rw [hW0]
    exact One.new _ _ _ _ (by simp)
  have hg : GrowP w.heap.size 52 W0 (.slice (some ⟨w.heap.size + 1, 0, none⟩) 0 0) [] := by
    rw [hW0]
    have h := (GrowP.empty (lo := w.heap.size) (e := 52) (w.alloc (.cells #[.pointer (some ⟨b, 0, none⟩)] 95)) (by simp)).ext ((World.Ext.refl _).alloc (.cells #[.slice (some ⟨w.heap.size + 1, 0, none⟩) 0 0] 34))
    simpa using h
  have key := each_any b 184 W H #[.pointer (some ⟨w.heap.size, 0, none⟩), .pointer (some ⟨w.heap.size + 1 + 1, 0, none⟩)] (fun k w' => SpSt w w.heap.size (w.heap.size + 1 + 1) b W l k w') W0 hW hH enters_spots1
    (fun k w' h => ⟨(hI.ext h.x).c0, (hI.ext h.x).c1⟩)
    (fun x y w' hx hy h => spots1_any w _ _ b ab W H l x y w' hW hH hI hx hy (by omega) (by omega) h)
    ⟨hx0, h1, _, h3, hg⟩
  have HK := Lib.hid key
  clear key hI hx0 h1 h3 hg
  go_enter Try.func143, Try.ntmps143
  go_wp2_with fail
  rw [← hW0]
  refine HK.out.mono ?_
  rintro e w2 ⟨rfl, hS⟩
  obtain ⟨hX, h1, v, hv, hg⟩ := hS
  obtain ⟨a, c, rfl, _⟩ := hg.form
  have c3 := hv.cell
  have HX := Lib.hid hX
  have HG := Lib.hid hg.own
  clear hX h1 hv hg hW0 HK
  go_wp2
  go_ret
  exact ⟨a, c, rfl, HX.out, HG.out⟩
end Go.Proofs.Ytpploijlijnahaa
