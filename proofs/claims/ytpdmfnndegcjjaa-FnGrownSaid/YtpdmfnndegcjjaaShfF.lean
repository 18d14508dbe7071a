/- FnShift: the best shift, the leaves of a shifted picture. -/
import Derived.Test.YtpdmfnndegcjjaaQtD
import Derived.Test.YtpdmfnndegcjjaaTreeH
import Derived.Test.YtpdmfnndegcjjaaRunT
namespace Go.Proofs.Ytpdmfnndegcjjaa
open Go Go.RowKit
set_option maxHeartbeats 400000 in
theorem r8At_any (a : Option Addr) (c : Nat) (zs : List Int) (i : Nat) (n : Int) (w : World) (_ : i ≤ 1000) (h : CodeAt w a zs) :
    Calls Try.prog 54 #[.slice a zs.length c, .int .i64 i, .int .i64 n] w fun e w' => ∃ r : Int, e = .returned (.int .i64 r) ∧ w.Ext w' ∧ 0 ≤ r ∧ (r < n ∨ r = 0) := by
  by_cases h1 : n ≤ 1
  · go_enter Try.func54, Try.ntmps54
    go_wp2
    go_ret
    exact ⟨0, rfl, .refl _, by omega, .inr rfl⟩
  · by_cases h2 : i < zs.length
    · have h2' : ¬ (zs.length : Int) ≤ (i : Int) := by omega
      have h2'' : (i : Int) < (zs.length : Int) := by omega
      obtain ⟨b, o, rfl, hc⟩ := h.1 i h2
      obtain ⟨z0, z1⟩ := h.2.1 _ (getD_memZ h2)
      have hl := h.2.2
      clear h
      generalize zs.getD i 0 = z at hc z0 z1
      have HM : Hid (0 ≤ z % n ∧ z % n < n) := ⟨Int.emod_nonneg _ (by omega), Int.emod_lt_of_pos _ (by omega)⟩
      go_enter Try.func54, Try.ntmps54
      go_wp2
      go_ret
      exact ⟨_, rfl, .refl _, HM.out.1, .inl HM.out.2⟩
    · have h2' : (zs.length : Int) ≤ (i : Int) := by omega
      have hl := h.2.2
      clear h
      go_enter Try.func54, Try.ntmps54
      go_wp2
      go_ret
      exact ⟨0, rfl, .refl _, by omega, .inr rfl⟩
structure RowQ (w0 : World) (p5 : Nat) (T S : TypeId) (W : Nat) (l : List Bool) (y : Nat) (w : World) : Prop where
  ext : w0.Ext w
  le5 : w0.heap.size ≤ p5
  str : ∃ v, One w p5 T v ∧ GrowOf Value.string w0.heap.size S w v (picRows W y l)
theorem RowQ.next {w0 w w1 : World} {p5 : Nat} {T S : TypeId} {W y : Nat} {l : List Bool} (h : RowQ w0 p5 T S W l y w) {v v' : Value} (hST : S ≠ T) (hv : One w p5 T v) (hg : GrowOf Value.string w0.heap.size S w v (picRows W y l))
    {o : Obj} (hgrow : (w.alloc o).grownBy w1 v.ownBlock) (hown : w1.ownsRow w0.heap.size S 1 v' ((picRows W y l).length + 1) ((picRows W y l).map Value.string ++ [Value.string (rowStr (rowAt W l y))])) :
    RowQ w0 p5 T S W l (y + 1) (w1.setCell ⟨p5, 0, none⟩ v') := by
  have hg1 := GrowOf.push (x := rowStr (rowAt W l y)) hown
  rw [← picRows_succ] at hg1
  have hx := hg.pushExt h.ext hgrow
  have hv1 := (hv.ext ((World.Ext.refl _).alloc o)).grown hgrow (hg.ne hv hST)
  exact ⟨hx.setCell h.le5 _, h.le5, v', hv1.set v', hg1.setCell (hg1.ne hv1 hST) _⟩
theorem RowQ.move {w0 w w1 : World} {p5 : Nat} {T S : TypeId} {W y : Nat} {l : List Bool} (h : RowQ w0 p5 T S W l y w) (hx : w.Ext w1) : RowQ w0 p5 T S W l y w1 :=
  ⟨h.ext.trans hx, h.le5, let ⟨v, h1, h2⟩ := h.str; ⟨v, h1.ext hx, h2.ext hx⟩⟩
theorem shF_size {W H : Nat} {L : List Bool} (a b : Nat) : (lcN (shF W H L a b) 3 0 0) ≤ 64 := by
  rw [← qtr_lcN (shF W H L a b) 3 0 0 0 0 ⟨#[]⟩]
  exact (lvs_len _ 3 0 0 _ (qtr_fits _ _ _ _)).2
set_option maxRecDepth 5000 in
set_option maxHeartbeats 3200000 in
theorem r8Leaves_any (a : Option Addr) (c : Nat) (ss : List ByteArray) (sx sy : Nat) (w : World) (hok : picOk ss = true) (hx8 : sx ≤ 8) (hy8 : sy ≤ 8) (hm : RowS w a ss) :
    Calls Try.prog 55 #[.agg #[.slice a ss.length c], .int .i64 sx, .int .i64 sy] w fun e w' => e = .returned (.tuple #[.int .i64 (shN (picW ss) ss.length (picL ss) sx sy : Nat), .bool true]) ∧ w.Ext w' := by
  obtain ⟨iu, hiu, hu0, hu1, hu2⟩ := info_parts Try.infoU8
  obtain ⟨is, his, hs0, hs1, hs2⟩ := info_parts Try.infoStr
  obtain ⟨W0, hW0⟩ : ∃ W0, W0 = w.alloc (.cells #[.slice a ss.length c] 26) := ⟨_, rfl⟩
  have hx0 : w.Ext W0 := by rw [hW0]; repeat (first | exact World.Ext.refl _ | exact ⟨_, rfl⟩ | assumption | refine World.Ext.over ?_ _ | refine World.Ext.drewN ?_ _ | refine World.Ext.drew ?_ | refine World.Ext.alloc ?_ _ | refine World.Ext.setCell ?_ (by simp) _)
  have d3 : W0.cell? ⟨w.heap.size, 0, none⟩ = some (.slice a ss.length c) := by rw [hW0]; simp [go_sem]
  obtain ⟨l, hl⟩ : ∃ l, l = mkl 8 8 (shF (picW ss) ss.length (picL ss) sx sy) := ⟨_, rfl⟩
  have hll : l.length = 64 := by rw [hl]; exact mkl_len _ _ _
  have HBK : Hid (∀ w' (x y : Nat), W0.Ext w' → x < 8 → y < 8 → Calls Try.prog 52 #[.agg #[.slice a ss.length c], .int .i64 ((x : Int) - sx), .int .i64 ((y : Int) - sy)] w' fun e w'' => e = .returned (.bool (l.getD (y * 8 + x) false)) ∧ w'.Ext w'') := fun w' x y hx h1 h2 => by
    rw [hl, mkl_at _ _ _ _ _ h1 h2]
    exact r8Black_any a c ss _ _ w' hok (RowOf.ext hm (hx0.trans hx))
  have HPT : Hid (∀ i j, i < 8 → j < 8 → l.getD (j * 8 + i) false = shF (picW ss) ss.length (picL ss) sx sy i j) := fun i j hi hj => by rw [hl, mkl_at _ _ _ _ _ hi hj]
  have HD3 : Hid (∀ w', W0.Ext w' → w'.cell? ⟨w.heap.size, 0, none⟩ = some (.slice a ss.length c)) := fun w' hx => hx.cell d3
  have HTO : Hid (∀ w' a' c', RowS w' a' (picRows 8 8 l) → Calls Try.prog 57 #[.agg #[.slice a' 8 c']] w' fun e w'' => e = .returned (.tuple #[.agg #[.int .i64 8, .string (txG 3 (shF (picW ss) ss.length (picL ss) sx sy))], .bool true]) ∧ w'.Ext w'') := fun w' a' c' h => by
    have h1 := implTreeOf_any a' c' (picRows 8 8 l) 3 (shF (picW ss) ss.length (picL ss) sx sy) w' (by decide) (picW_rows (by decide) hll) (picRows_len _ _ _) (picOk_rows (by decide) (by decide) (by decide) (by decide) hll) (fun i j hi hj => by rw [picL_rows hll]; exact HPT.out i j hi hj) h
    rw [picRows_len] at h1
    exact h1
  have HLO : Hid (∀ w', Calls Try.prog 59 #[.agg #[.int .i64 8, .string (txG 3 (shF (picW ss) ss.length (picL ss) sx sy))]] w' (TabRet w' (lvM ((qtr (shF (picW ss) ss.length (picL ss) sx sy) 3 0 0).lvs 3 0 0 ⟨#[]⟩)))) := fun w' =>
    implLeavesOf_any 8 _ 3 _ w' (Nat.le_trans (txG_size _ (by decide)) (by decide)) (opn_tx (n := 3) (by decide) _)
  have HLL : Hid ((lvM ((qtr (shF (picW ss) ss.length (picL ss) sx sy) 3 0 0).lvs 3 0 0 ⟨#[]⟩)).length = shN (picW ss) ss.length (picL ss) sx sy) := by
    show _ = _
    rw [lvM_len]
    exact qtr_lcN _ 3 0 0 0 0 _
  have HSZ : Hid (shN (picW ss) ss.length (picL ss) sx sy ≤ 64) := shF_size _ _
  have hr := HLL.out
  generalize lvM ((qtr (shF (picW ss) ss.length (picL ss) sx sy) 3 0 0).lvs 3 0 0 ⟨#[]⟩) = M at *
  generalize shN (picW ss) ss.length (picL ss) sx sy = N at *
  generalize txG 3 (shF (picW ss) ss.length (picL ss) sx sy) = tx at *
  subst hr
  have HL := Lib.hid hll
  have HX0 := Lib.hid hx0
  have hlm : l.length ≤ 64 := by omega
  obtain ⟨p5, hp5⟩ : ∃ p5, p5 = W0.heap.size + 1 := ⟨_, rfl⟩
  have HS : Hid (RowQ W0 p5 26 9 8 l 0 ((W0.alloc (.cells #[] 9)).alloc (.cells #[.slice (some ⟨W0.heap.size, 0, none⟩) 0 0] 26))) := by
    have h1 : W0.Ext (W0.alloc (.cells #[] 9)) := by repeat (first | exact World.Ext.refl _ | exact ⟨_, rfl⟩ | assumption | refine World.Ext.over ?_ _ | refine World.Ext.drewN ?_ _ | refine World.Ext.drew ?_ | refine World.Ext.alloc ?_ _ | refine World.Ext.setCell ?_ (by simp) _)
    have hg := GrowOf.empty (f := Value.string) (lo := W0.heap.size) (e := 9) W0 (Nat.le_refl _)
    exact ⟨h1.alloc _, by omega, _, by rw [hp5]; exact One.new _ _ _ _ (by simp), hg.ext (by repeat (first | exact World.Ext.refl _ | exact ⟨_, rfl⟩ | assumption | refine World.Ext.over ?_ _ | refine World.Ext.drewN ?_ _ | refine World.Ext.drew ?_ | refine World.Ext.alloc ?_ _ | refine World.Ext.setCell ?_ (by simp) _))⟩
  clear hll hl hok hm hx0 HPT HLL
  go_enter Try.func55, Try.ntmps55
  go_upto_region 2 with fail
  rw [← hW0]
  have e1 : w.heap.size + 1 = W0.heap.size := by rw [hW0]; simp
  rw [e1]
  clear hW0 d3
  generalize (W0.alloc (.cells #[] 9)).alloc (.cells #[.slice (some ⟨W0.heap.size, 0, none⟩) 0 0] 26) = W1 at *
  rw [← hp5]
  generalize w.heap.size = p3 at *
  clear e1 hp5
  go_wp2
  go_loopw [9, 10, 11, 12] (fun j _ _ _ wr => ∃ y : Nat, y ≤ 8 ∧ j = .int .i64 y ∧ Hid (RowQ W0 p5 26 9 8 l y wr)) (fun j _ _ _ _ => 8 - (intOf j).toNat)
  case atStart => exact ⟨0, Nat.zero_le _, rfl, HS⟩
  case round =>
    clear HS
    obtain ⟨y, hy, rfl, HW⟩ := hrel
    obtain ⟨wo, rfl⟩ : ∃ wo : World, wo = wr := ⟨_, rfl⟩
    by_cases hlt : y < 8
    · have hlt' : (y : Int) < 8 := by omega
      have hrow := rowAt_len 8 8 l y HL.out hlt
      obtain ⟨F, hF⟩ : ∃ F, F = y * 8 := ⟨_, rfl⟩
      have hFW : F + 8 ≤ l.length := by rw [HL.out, hF]; omega
      have hg0 := GrowOf.empty (f := Value.int .u8) (lo := wo.heap.size) (e := 5) wo (Nat.le_refl _)
      have hx0 : wo.Ext (wo.alloc (.cells #[] 5)) := by repeat (first | exact World.Ext.refl _ | exact ⟨_, rfl⟩ | assumption | refine World.Ext.over ?_ _ | refine World.Ext.drewN ?_ _ | refine World.Ext.drew ?_ | refine World.Ext.alloc ?_ _ | refine World.Ext.setCell ?_ (by simp) _)
      have HG0 := Lib.hid hg0
      have HX1 := Lib.hid hx0
      clear hg0 hx0
      go_wp2
      go_loopw [10, 11, 12] (fun v i _ w2 => ∃ x : Nat, x ≤ 8 ∧ i = .int .i64 x ∧ Hid (wo.Ext w2) ∧ Hid (GrowOf (Value.int .u8) wo.heap.size 5 w2 v (((l.drop F).take x).map byteOf))) (fun _ i _ _ => 8 - (intOf i).toNat)
      case atStart => exact ⟨0, Nat.zero_le _, rfl, HX1, HG0⟩
      case round =>
        clear HX1 HG0
        obtain ⟨x, hx, rfl, HX, HG⟩ := hrel
        obtain ⟨wi, rfl⟩ : ∃ wi : World, wi = wr := ⟨_, rfl⟩
        obtain ⟨vi, rfl⟩ : ∃ vi : Value, vi = u10 := ⟨_, rfl⟩
        by_cases hltx : x < 8
        · have hltx' : (x : Int) < 8 := by omega
          have d3 := HD3.out wi (HW.out.ext.trans HX.out)
          have HB := Lib.hid (HBK.out wi x y (HW.out.ext.trans HX.out) hltx hlt)
          rw [← hF] at HB
          go_wp2_with fail
          refine HB.out.mono ?_
          rintro e w3 ⟨rfl, hx3⟩
          have hlen : (((l.drop F).take x).map byteOf).length = x := by simp; omega
          have hown := HG.out.ext hx3
          have hbyte := row_bytes l F x (by omega)
          have HXW := Lib.hid (HX.out.trans hx3)
          have HGW := Lib.hid (HG.out.ext hx3)
          unfold GrowOf at hown
          rw [hlen] at hown
          have hlx : x + 1 ≤ maxLen := by unfold maxLen; omega
          have hlb : (x + 1) * 1 ≤ 140737488355328 := by omega
          have HLX := Lib.hid hlx
          have HLB := Lib.hid hlb
          have hle : ∀ o : Obj, wo.heap.size ≤ (w3.alloc o).heap.size := fun o => (HXW.out.alloc o).size
          have hnext : ∀ (o : Obj) (v' : Value) (w1 : World), (w3.alloc o).grownBy w1 vi.ownBlock → w1.ownsRow wo.heap.size 5 1 v' (x + 1) ((((l.drop F).take x).map byteOf).map (Value.int .u8) ++ [Value.int .u8 (byteOf (l.getD (F + x) false))]) →
              wo.Ext w1 ∧ GrowOf (Value.int .u8) wo.heap.size 5 w1 v' (((l.drop F).take (x + 1)).map byteOf) := fun o v' w1 hgrow hown' => by
            refine ⟨HGW.out.pushExt HXW.out hgrow, ?_⟩
            rw [← hbyte]
            exact GrowOf.push (by rw [hlen]; exact hown')
          have HNEXT := Lib.hid hnext
          have HLE := Lib.hid hle
          clear hlx hlb hlen hbyte hnext hle hx3 HB d3 HX HG HXW HGW
          cases hv : l.getD (F + x) false
          · rw [hv] at HNEXT
            clear hv
            go_wp2_with (at_builtin; refine wpList_append_own _ rfl _ _ 22 rfl wo.heap.size 5 iu (.int .u8 0) 1 1 Try.underlying22 hiu hu0 hu1 hu2 rfl (by decide) _ _ _ rfl (hown.alloc _) ⟨w3.heap.size, 0, none⟩ 1 1 [.int .u8 46] rfl rfl (cell_one_new _ _ _) (by simp [Value.oneCell']) HLX.out HLB.out (HLE.out _) (fun v' w1 hown' hgrow _ => ?_))
            obtain ⟨hx1, hg1⟩ := HNEXT.out _ _ _ hgrow hown'
            have HX1 := Lib.hid hx1
            have HG1 := Lib.hid hg1
            clear hx1 hg1 hgrow hown' hown
            go_wp2
            go_roundw
            case rel => exact ⟨x + 1, by omega, by go_num, HX1, HG1⟩
            case measure => simp [intOf]; omega
          · rw [hv] at HNEXT
            clear hv
            go_wp2_with (at_builtin; refine wpList_append_own _ rfl _ _ 22 rfl wo.heap.size 5 iu (.int .u8 0) 1 1 Try.underlying22 hiu hu0 hu1 hu2 rfl (by decide) _ _ _ rfl (hown.alloc _) ⟨w3.heap.size, 0, none⟩ 1 1 [.int .u8 35] rfl rfl (cell_one_new _ _ _) (by simp [Value.oneCell']) HLX.out HLB.out (HLE.out _) (fun v' w1 hown' hgrow _ => ?_))
            obtain ⟨hx1, hg1⟩ := HNEXT.out _ _ _ hgrow hown'
            have HX1 := Lib.hid hx1
            have HG1 := Lib.hid hg1
            clear hx1 hg1 hgrow hown' hown
            go_wp2
            go_roundw
            case rel => exact ⟨x + 1, by omega, by go_num, HX1, HG1⟩
            case measure => simp [intOf]; omega
        · have hx8' : x = 8 := by omega
          subst hx8'
          have hbl : (((l.drop F).take 8).map byteOf).length = 8 := by simp; omega
          obtain ⟨g, cap, rfl, hg1, hg2, hcell⟩ := HG.out.some (by omega)
          rw [hbl] at hcell ⊢
          have hcv := run_convert_bytes_arg (P := Try.prog) wi 22 5 Try.underlying22 Try.underlying5 g 0 8 cap (((l.drop F).take 8).map byteOf) hbl
            (by intro i hi; rw [Nat.zero_add]; exact hcell 0 i hi) 9 Try.underlying9
          have hstr : strOfNums (((l.drop F).take 8).map byteOf) = rowStr (rowAt 8 l y) := by rw [hF]; rfl
          rw [hstr] at hcv
          have hM := HW.out.move HX.out
          obtain ⟨v, hv, hgv⟩ := hM.str
          have hown := hgv
          unfold GrowOf at hown
          rw [picRows_len] at hown
          have hy1 : y + 1 ≤ maxLen := by unfold maxLen; omega
          have hy2 : (y + 1) * 16 ≤ 140737488355328 := by omega
          have hnext : ∀ (o : Obj) (v' : Value) (w1 : World), (wi.alloc o).grownBy w1 v.ownBlock → w1.ownsRow W0.heap.size 9 1 v' (y + 1) ((picRows 8 y l).map Value.string ++ [Value.string (rowStr (rowAt 8 l y))]) →
              (∃ a1 c1, v' = .slice a1 (y + 1) c1) ∧ (w1.cell? ⟨p5, 0, none⟩ = some v ∧ w1.frozen? ⟨p5, 0, none⟩ = false) ∧ RowQ W0 p5 26 9 8 l (y + 1) (w1.setCell ⟨p5, 0, none⟩ v') := fun o v' w1 hgrow hown' => by
            have h5 := (hv.ext ((World.Ext.refl _).alloc o)).grown hgrow (hgv.ne hv (by decide))
            have hfm : ∃ a1 c1, v' = .slice a1 (y + 1) c1 := by
              obtain ⟨a1, c1, h1, _⟩ := GrowOf.form (f := Value.string) (xs := picRows 8 y l ++ [rowStr (rowAt 8 l y)]) (GrowOf.push (by rw [picRows_len]; exact hown'))
              exact ⟨a1, c1, by rw [h1]; simp [picRows_len]⟩
            exact ⟨hfm, ⟨h5.cell, h5.free⟩, hM.next (by decide) hv hgv hgrow (by rw [picRows_len]; exact hown')⟩
          have hle : ∀ o : Obj, W0.heap.size ≤ (wi.alloc o).heap.size := fun o => (hM.ext.alloc o).size
          have hc5 := hv.cell
          have HNEXT := Lib.hid hnext
          have HLE := Lib.hid hle
          have HY1 := Lib.hid hy1
          have HY2 := Lib.hid hy2
          clear hnext hle hy1 hy2 hM hv hgv hcell hbl hg1 hg2 hrow hF
          generalize rowStr (rowAt 8 l y) = st at *
          go_wp2_with ((at_builtin; refine wpList_append_own _ rfl _ _ 24 rfl W0.heap.size 9 is (.string ByteArray.empty) 1 16 Try.underlying24 his hs0 hs1 hs2 rfl (by decide) _ _ _ rfl (hown.alloc _) ⟨wi.heap.size, 0, none⟩ 1 1 [.string st] rfl rfl (cell_one_new _ _ _) (by simp [Value.oneCell']) HY1.out HY2.out (HLE.out _) (fun v' w1 hown' hgrow _ => ?_)); obtain ⟨⟨a1, c1, rfl⟩, ⟨hc6, hf6⟩, hR⟩ := HNEXT.out _ _ _ hgrow hown'; have HRN := Lib.hid hR; clear hR hown' hgrow hc5)
          go_roundw
          case rel => exact ⟨y + 1, by omega, by go_num, HRN⟩
          case measure => simp [intOf]; omega
    · have hy8' : y = 8 := by omega
      subst hy8'
      obtain ⟨v, hv, hgv⟩ := HW.out.str
      obtain ⟨a', c', rfl, _⟩ := hgv.form
      rw [picRows_len] at *
      have hc5 := hv.cell
      have HT := Lib.hid (HTO.out wo a' c' ((hgv.own ByteArray.empty).row))
      have HX2 := Lib.hid (HX0.out.trans HW.out.ext)
      clear hv hgv HW HTO HX0
      go_wp2_with fail
      refine HT.out.mono ?_
      rintro e w2 ⟨rfl, hx2⟩
      have HX3 := Lib.hid (HX2.out.trans hx2)
      clear hx2 hc5 HT HX2
      go_wp2_with fail
      refine (HLO.out _).mono ?_
      rintro e w4 ⟨a4, c4, A4, C4, rfl, hx4, -⟩
      have HX4 : Hid (w.Ext w4) := World.Ext.trans (World.Ext.alloc HX3.out _) hx4
      have hm64 : M.length ≤ 64 := HSZ.out
      clear hx4
      go_wp2
      go_ret2
      exact ⟨rfl, HX4.out⟩
end Go.Proofs.Ytpdmfnndegcjjaa
