/- The program's depths. -/
import Derived.Test.YtpploijlijnahaaWhite
import Derived.Test.YtpploijlijnahaaILeast
import Derived.Test.YtpploijlijnahaaIGrid
namespace Go.Proofs.Ytpploijlijnahaa
open Go.RowKit
/-- A captured value and a captured slice of pairs that grows. -/
structure BoxSt (w : World) (p3 : Nat) (T3 : TypeId) (u3 : Value) (p5 : Nat) (ps : List (Int × Int)) (wr : World) : Prop where
  x : w.Ext wr
  one : One wr p3 T3 u3
  grow : ∃ v, One wr p5 34 v ∧ GrowP w.heap.size 52 wr v ps
theorem BoxSt.ext {w : World} {p3 : Nat} {T3 : TypeId} {u3 : Value} {p5 : Nat} {ps : List (Int × Int)} {wr w' : World} (h : BoxSt w p3 T3 u3 p5 ps wr) (hx : wr.Ext w') : BoxSt w p3 T3 u3 p5 ps w' :=
  ⟨h.x.trans hx, h.one.ext hx, let ⟨v, h1, h2⟩ := h.grow; ⟨v, h1.ext hx, h2.ext hx⟩⟩
theorem BoxSt.push {w : World} {p3 : Nat} {T3 : TypeId} {u3 : Value} {p5 : Nat} {ps : List (Int × Int)} {w2 : World} {v : Value} {q : Int × Int} (hx : w.Ext w2) (h1 : One w2 p3 T3 u3) (h3 : One w2 p5 34 v) (hg : GrowP w.heap.size 52 w2 v ps) (hT : 52 ≠ T3) (hp : w.heap.size ≤ p5) (hne : p3 ≠ p5)
    (o' : Obj) (v' : Value) (w1 : World) (hgrow : (w2.alloc o').grownBy w1 v.ownBlock) (hown' : w1.ownsRow w.heap.size 52 2 v' (ps.length + 1) ((flatP ps).map (Value.int .i64) ++ [.int .i64 q.1, .int .i64 q.2])) :
    w1.cell? ⟨p5, 0, none⟩ = some v ∧ w1.frozen? ⟨p5, 0, none⟩ = false ∧ Hid (BoxSt w p3 T3 u3 p5 (ps ++ [q]) (w1.setCell ⟨p5, 0, none⟩ v')) := by
  have a1 := (h1.ext ((World.Ext.refl _).alloc o')).grown hgrow (World.ownsRow.ne hg h1 hT)
  have a3 := (h3.ext ((World.Ext.refl _).alloc o')).grown hgrow (World.ownsRow.ne hg h3 (by decide))
  have ax := World.ownsRow.pushExt hg hx hgrow
  have ag : GrowP w.heap.size 52 w1 v' (ps ++ [q]) := GrowP.push hown'
  exact ⟨a3.cell, a3.free, ax.setCell (p := ⟨p5, 0, none⟩) hp v', a1.other (a := ⟨p5, 0, none⟩) (Ne.symm hne) v', v', a3.set v', ag.setCell (a := ⟨p5, 0, none⟩) (World.ownsRow.ne ag a3 (by decide)) v'⟩
theorem enters_depths1 : Enters 186 := enters_of Try.func186 (by kernel_rfl) (by kernel_rfl)
set_option maxHeartbeats 800000 in
theorem depths1_any (p3 p5 : Nat) (kind x y : Int) (a : Option Addr) (c : Nat) (ps : List (Int × Int)) (w : World) (hpos : 0 < ps.length) (hn : ps.length ≤ 1048576) (hm : RowP w a ps) (hb : AllNear ps) (hx : -40 ≤ x ∧ x ≤ 40) (hy : -40 ≤ y ∧ y ≤ 40)
    (h3 : w.cell? ⟨p3, 0, none⟩ = some (.int .i64 kind)) (h5 : w.cell? ⟨p5, 0, none⟩ = some (.slice a ps.length c)) :
    Calls Try.prog 186 #[.int .i64 x, .int .i64 y, .pointer (some ⟨p3, 0, none⟩), .pointer (some ⟨p5, 0, none⟩)] w fun e w' => e = .returned (.int .i64 (leastD (ps.map (farI kind (x, y))))) ∧ w.Ext w' := by
  have HL := Lib.hid (least_any kind x y a c ps w hpos hn hm hb hx hy)
  clear hpos hn hm hb hx hy
  generalize leastD (ps.map (farI kind (x, y))) = d at *
  go_enter Try.func186, Try.ntmps186
  go_wp2_with fail
  refine HL.out.mono ?_
  rintro e w2 ⟨j, rfl, hx2⟩
  go_wp2
  go_ret
  exact ⟨rfl, hx2⟩
set_option maxRecDepth 5000 in
set_option maxHeartbeats 3200000 in
theorem depths_any (b ab W H : Nat) (kind : Int) (l : List Bool) (w : World) (hW : W ≤ 38) (hH : H ≤ 38) (hI : Img w b ab W H l) :
    Calls Try.prog 150 #[.pointer (some ⟨b, 0, none⟩), .int .i64 kind] w (MatRet w (grd W H (depI kind W H l))) := by
  obtain ⟨i0, hi, hz0, hz1, hz2⟩ := info_parts Try.infoSpot
  obtain ⟨W0, hW0⟩ : ∃ W0, W0 = ((w.alloc (.cells #[.int .i64 kind] 2)).alloc (.cells #[] 52)).alloc (.cells #[.slice (some ⟨w.heap.size + 1, 0, none⟩) 0 0] 34) := ⟨_, rfl⟩
  have hx0 : w.Ext W0 := by rw [hW0]; repeat (first | exact World.Ext.refl _ | exact ⟨_, rfl⟩ | assumption | refine World.Ext.over ?_ _ | refine World.Ext.drewN ?_ _ | refine World.Ext.drew ?_ | refine World.Ext.alloc ?_ _ | refine World.Ext.setCell ?_ (by simp) _)
  have h1 : One W0 w.heap.size 2 (.int .i64 kind) := by
    rw [hW0]
    exact ((One.new w _ _ _ rfl).ext ((World.Ext.refl _).alloc _)).ext ((World.Ext.refl _).alloc _)
  have h3 : One W0 (w.heap.size + 1 + 1) 34 (.slice (some ⟨w.heap.size + 1, 0, none⟩) 0 0) := by
    rw [hW0]
    exact One.new _ _ _ _ (by simp)
  have hg : GrowP w.heap.size 52 W0 (.slice (some ⟨w.heap.size + 1, 0, none⟩) 0 0) [] := by
    rw [hW0]
    have h := (GrowP.empty (lo := w.heap.size) (e := 52) (w.alloc (.cells #[.int .i64 kind] 2)) (by simp)).ext ((World.Ext.refl _).alloc (.cells #[.slice (some ⟨w.heap.size + 1, 0, none⟩) 0 0] 34))
    simpa using h
  have HST : Hid (BoxSt w w.heap.size 2 (.int .i64 kind) (w.heap.size + 1 + 1) [] W0) := ⟨hx0, h1, _, h3, hg⟩
  have HI := Lib.hid hI
  have HWP : Hid (∀ i j, whiteP W H l i j = !pxl W H l i j) := fun i j => rfl
  have HNE : Hid (0 < (spotsP (W + 2) (whiteP W H l) ((H + 2) * (W + 2))).length) := spotsP_head (by omega) (by omega) (by unfold whiteP; rw [pxl_out (by rw [Bool.eq_false_iff, Ne, hasB_true]; omega)]; rfl)
  have HNR : Hid (AllNear (spotsP (W + 2) (whiteP W H l) ((H + 2) * (W + 2)))) := fun i hi => by
    have hmem : (spotsP (W + 2) (whiteP W H l) ((H + 2) * (W + 2))).getD i (0, 0) ∈ spotsP (W + 2) (whiteP W H l) ((H + 2) * (W + 2)) := by
      rw [List.getD_eq_getElem?_getD, List.getElem?_eq_getElem hi]
      exact List.getElem_mem hi
    have := spotsP_near (W + 2) (H + 2) (whiteP W H l) (by omega) (by omega) _ hmem
    omega
  have HDI : Hid (∀ x y : Nat, depI kind W H l x y = leastD ((spotsP (W + 2) (whiteP W H l) ((H + 2) * (W + 2))).map (farI kind (x, y)))) := fun x y => rfl
  have HLEN : Hid (∀ k, (spotsP (W + 2) (whiteP W H l) k).length ≤ k) := fun k => spotsP_len _ _ _
  have HK : Hid (∀ j i : Nat, j ≤ H + 2 → i ≤ W + 2 → j * (W + 2) + i ≤ 2000) := fun j i h1 h2 => by
    have : j * (W + 2) ≤ 40 * 40 := Nat.mul_le_mul (by omega) (by omega)
    omega
  generalize whiteP W H l = P at *
  generalize depI kind W H l = g at *
  clear hI hx0 h1 h3 hg
  have h0 := (HI.out.ext HST.out.x).c0
  go_enter Try.func150, Try.ntmps150
  go_wp2
  rw [← hW0]
  clear hW0 h0
  go_loopw [6, 7] (fun j _ wr => ∃ k : Nat, k ≤ H + 2 ∧ j = .int .i64 ((k : Int) - 1) ∧ Hid (BoxSt w w.heap.size 2 (.int .i64 kind) (w.heap.size + 1 + 1) (spotsP (W + 2) P (k * (W + 2))) wr)) (fun j _ _ => H + 2 - (intOf j + 1).toNat)
  case atStart => exact ⟨0, Nat.zero_le _, rfl, by rw [Nat.zero_mul]; exact HST⟩
  case round =>
    obtain ⟨j, hj, rfl, HS⟩ := hrel
    clear HST
    obtain ⟨wo, rfl⟩ : ∃ wo : World, wo = wr := ⟨_, rfl⟩
    have hI := HI.out.ext HS.out.x
    have c0 := hI.c0
    have c1 := hI.c1
    have lb := hI.lt
    clear hI
    by_cases hltj : j < H + 2
    · have hltj' : (j : Int) - 1 ≤ (H : Int) := by omega
      go_wp2
      clear c0 c1 lb
      go_loopw [7] (fun i wr => ∃ k : Nat, k ≤ W + 2 ∧ i = .int .i64 ((k : Int) - 1) ∧ Hid (BoxSt w w.heap.size 2 (.int .i64 kind) (w.heap.size + 1 + 1) (spotsP (W + 2) P (j * (W + 2) + k)) wr)) (fun i _ => W + 2 - (intOf i + 1).toNat)
      case atStart => exact ⟨0, Nat.zero_le _, rfl, HS⟩
      case round =>
        obtain ⟨i, hi', rfl, HS⟩ := hrel
        have hI := HI.out.ext HS.out.x
        have c0 := hI.c0
        have c1 := hI.c1
        have lb := hI.lt
        by_cases hlti : i < W + 2
        · have hlti' : (i : Int) - 1 ≤ (W : Int) := by omega
          have HPB := HWP.out ((i : Int) - 1) ((j : Int) - 1)
          cases hb : pxl W H l ((i : Int) - 1) ((j : Int) - 1)
          · have HC := Lib.hid (get_any b ab W H l ((i : Int) - 1) ((j : Int) - 1) wr (by omega) (by omega) hI _ hb)
            rw [hb, Bool.not_false] at HPB
            have HN := Lib.hid (spotsP_yes hlti HPB)
            have HB1 : Hid ((spotsP (W + 2) P (j * (W + 2) + i)).length + 1 ≤ maxLen) := by show _ ≤ _; have h1 := HLEN.out (j * (W + 2) + i); have h2 := HK.out j i (by omega) (by omega); unfold maxLen; omega
            have HB2 : Hid (((spotsP (W + 2) P (j * (W + 2) + i)).length + 1) * 16 ≤ 140737488355328) := by show _ ≤ _; have h1 := HLEN.out (j * (W + 2) + i); have h2 := HK.out j i (by omega) (by omega); omega
            clear hb HPB hI
            go_wp2_with fail
            refine HC.out.mono ?_
            rintro e w2 ⟨rfl, hx2⟩
            obtain ⟨ax, a1, v, a3, ag⟩ := HS.out.ext hx2
            have c3 := a3.cell
            have f3 := a3.free
            have l3 := a3.lt
            have HNEXT : Hid (∀ (o' : Obj) (v' : Value) (w1 : World), (w2.alloc o').grownBy w1 v.ownBlock → w1.ownsRow w.heap.size 52 2 v' ((spotsP (W + 2) P (j * (W + 2) + i)).length + 1) ((flatP (spotsP (W + 2) P (j * (W + 2) + i))).map (Value.int .i64) ++ [.int .i64 ((i : Int) - 1), .int .i64 ((j : Int) - 1)]) →
                w1.cell? ⟨w.heap.size + 1 + 1, 0, none⟩ = some v ∧ w1.frozen? ⟨w.heap.size + 1 + 1, 0, none⟩ = false ∧ Hid (BoxSt w w.heap.size 2 (.int .i64 kind) (w.heap.size + 1 + 1) (spotsP (W + 2) P (j * (W + 2) + (i + 1))) (w1.setCell ⟨w.heap.size + 1 + 1, 0, none⟩ v'))) := fun o' v' w1 hgrow hown' => by
              rw [← Nat.add_assoc, HN.out]
              exact BoxSt.push ax a1 a3 ag (by decide) (by omega) (by omega) o' v' w1 hgrow hown'
            have hown := ag
            unfold GrowP at hown
            have HLE : ∀ o' : Obj, w.heap.size ≤ (w2.alloc o').heap.size := fun o' => (ax.alloc o').size
            clear HS HC hx2 ax a1 a3 ag HN c0 c1 lb
            generalize spotsP (W + 2) P (j * (W + 2) + i) = ps at *
            go_wp2_with (at_builtin; refine wpList_append_own _ rfl _ _ 34 rfl w.heap.size 52 i0 (.agg #[.int .i64 0, .int .i64 0]) 2 16 Try.underlying34 hi hz0 hz1 hz2 rfl (by decide) _ _ _ rfl (hown.alloc _) ⟨w2.heap.size, 0, none⟩ 1 1 [.int .i64 ((i : Int) - 1), .int .i64 ((j : Int) - 1)] rfl rfl (cell_two_at (by simp)) (by simp [Value.oneCell']) HB1.out HB2.out (HLE _) (fun v' w1 hown' hgrow _ => ?_); obtain ⟨d3, e3, HS⟩ := HNEXT.out _ _ _ hgrow hown'; obtain ⟨a4, c4, rfl, _⟩ := World.ownsRow.form hown'; clear hgrow hown' hown c3 f3 l3)
            go_roundw
            case rel => exact ⟨i + 1, by omega, by congr 1; omega, HS⟩
            case measure => simp [intOf]; omega
          · have HC := Lib.hid (get_any b ab W H l ((i : Int) - 1) ((j : Int) - 1) wr (by omega) (by omega) hI _ hb)
            rw [hb, Bool.not_true] at HPB
            have HN := Lib.hid (spotsP_no hlti HPB)
            clear hb HPB hI
            go_wp2_with fail
            refine HC.out.mono ?_
            rintro e w2 ⟨rfl, hx2⟩
            have HS2 : Hid (BoxSt w w.heap.size 2 (.int .i64 kind) (w.heap.size + 1 + 1) (spotsP (W + 2) P (j * (W + 2) + (i + 1))) w2) := by
              show BoxSt _ _ _ _ _ _ _
              rw [← Nat.add_assoc, HN.out]
              exact HS.out.ext hx2
            clear HS HC hx2 HN c0 c1 lb
            go_wp2
            go_roundw
            case rel => exact ⟨i + 1, by omega, by congr 1; omega, HS2⟩
            case measure => simp [intOf]; omega
        · have : i = W + 2 := by omega
          subst this
          have hge : (W : Int) < ((W + 2 : Nat) : Int) - 1 := by omega
          clear hI
          go_wp2
          go_roundw
          case rel => exact ⟨j + 1, by omega, by congr 1; omega, by rw [Nat.succ_mul]; exact HS⟩
          case measure => simp [intOf]; omega
    · have : j = H + 2 := by omega
      subst this
      have hge : (H : Int) < ((H + 2 : Nat) : Int) - 1 := by omega
      obtain ⟨ax, a1, v, a3, ag⟩ := HS.out
      obtain ⟨a, c, rfl, _⟩ := ag.form
      have hr := ag.own.row
      have HG := Lib.hid (grid_any b ab 186 W H l #[.pointer (some ⟨w.heap.size, 0, none⟩), .pointer (some ⟨w.heap.size + 1 + 1, 0, none⟩)] g wo (by omega) (by omega) (HI.out.ext ax) enters_depths1 (fun w' hx x y h1 h2 => by
        rw [HDI.out]
        refine depths1_any _ _ kind x y a c _ w' HNE.out ?_ (hr.ext hx) HNR.out (by omega) (by omega) (hx.cell a1.cell) (hx.cell a3.cell)
        have h1 := HLEN.out ((H + 2) * (W + 2))
        have h2 := HK.out (H + 2) 0 (by omega) (by omega)
        omega))
      have HX := Lib.hid ax
      clear HS ax a1 a3 ag hr
      go_wp2_with fail
      refine HG.out.mono ?_
      rintro e w2 ⟨a2, c2, A2, C2, rfl, hx2, ho2⟩
      have hz := HX.out.size
      have HR : Hid (MatRet w (grd W H g) (.returned (.slice a2 (grd W H g).length c2)) w2) := ⟨a2, c2, A2, C2, rfl, HX.out.trans hx2, ho2.lower hz⟩
      clear hx2 ho2 hz
      go_wp2
      go_ret
      exact HR.out
end Go.Proofs.Ytpploijlijnahaa
