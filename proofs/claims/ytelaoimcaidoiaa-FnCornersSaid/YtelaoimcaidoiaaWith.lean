/- The program's pictures made of an image; its black pixels; tables of numbers. -/
import Derived.Test.YtelaoimcaidoiaaPic
namespace Go.Proofs.Ytelaoimcaidoiaa
open Go.RowKit
set_option maxRecDepth 5000 in
set_option maxHeartbeats 800000 in
theorem indexFuncP_any (a : Option Addr) (c f : Nat) (caps : Array Value) (os : List (Int × Int)) (p : Int × Int → Bool) (w : World) (hn : os.length ≤ 1048576) (hm : RowP w a os) (he : Enters f)
    (hf : ∀ w', w.Ext w' → ∀ i, i < os.length → Calls Try.prog f (#[spotV (os.getD i (0, 0))] ++ caps) w' fun e w'' => e = .returned (.bool (p (os.getD i (0, 0)))) ∧ w'.Ext w'') :
    Calls Try.prog 60 #[.slice a os.length c, .func (.func f) #[] caps] w fun e w' => e = .returned (.int .i64 (idxP p os)) ∧ w.Ext w' := by
  have HM := Lib.hid hm
  have HF := Lib.hid hf
  have hn2 : os.length ≤ 4611686018427387904 := by omega
  unfold Enters at he
  clear hm hf hn
  go_enter Try.func60, Try.ntmps60
  go_wp2
  go_loopw [5, 8] (fun _ i wr => ∃ k : Nat, k ≤ os.length ∧ i = .int .i64 k ∧ Hid (∀ i, i < k → p (os.getD i (0, 0)) = false) ∧ w.Ext wr) (fun _ i _ => os.length - (intOf i).toNat)
  case atStart => exact ⟨0, Nat.zero_le _, rfl, fun i hi => by omega, .refl _⟩
  case round =>
    obtain ⟨k, hk, rfl, HK, hx⟩ := hrel
    by_cases hlt : k < os.length
    · obtain ⟨b, o, rfl, hc1, hc2⟩ := (HM.out.ext hx).at hlt
      have HC := Lib.hid (HF.out wr hx k hlt)
      unfold spotV at HC
      have HK1 : Hid (p (os.getD k (0, 0)) = false → ∀ i, i < k + 1 → p (os.getD i (0, 0)) = false) := fun h i hi => by
        by_cases e : i = k
        · rw [e]; exact h
        · exact HK.out i (by omega)
      have HI : Hid (p (os.getD k (0, 0)) = true → (k : Int) = idxP p os) := fun h => (idxP_at hlt HK.out h).symm
      generalize p (os.getD k (0, 0)) = t at HC HK1 HI
      generalize os.getD k (0, 0) = z at hc1 hc2 HC
      go_wp2_with fail
      refine HC.out.mono ?_
      rintro e w2 ⟨rfl, hx2⟩
      have hx := hx.trans hx2
      cases t
      · have HK2 := Lib.hid (HK1.out rfl)
        clear HK1 HI
        go_wp2
        go_roundw
        case rel => exact ⟨k + 1, by omega, by go_num, HK2.out, hx⟩
        case measure => simp [intOf]; omega
      · have HI2 := Lib.hid (HI.out rfl)
        clear HK1 HI
        go_wp2
        go_ret
        exact ⟨ret_int HI2.out, hx⟩
    · have : k = os.length := by omega
      subst this
      go_wp2
      go_ret
      exact ⟨ret_int (idxP_none HK.out).symm, hx⟩
set_option maxHeartbeats 400000 in
theorem containsFuncP_any (a : Option Addr) (c f : Nat) (caps : Array Value) (os : List (Int × Int)) (p : Int × Int → Bool) (w : World) (hn : os.length ≤ 1048576) (hm : RowP w a os) (he : Enters f)
    (hf : ∀ w', w.Ext w' → ∀ i, i < os.length → Calls Try.prog f (#[spotV (os.getD i (0, 0))] ++ caps) w' fun e w'' => e = .returned (.bool (p (os.getD i (0, 0)))) ∧ w'.Ext w'') :
    Calls Try.prog 47 #[.slice a os.length c, .func (.func f) #[] caps] w fun e w' => e = .returned (.bool (os.any p)) ∧ w.Ext w' := by
  have HC := Lib.hid (indexFuncP_any a c f caps os p w hn hm he hf)
  have HT := Lib.hid (idxP_any p os)
  have hlo := idxP_lo p os
  clear hn hm he hf
  generalize os.any p = t at HT ⊢
  generalize idxP p os = z at HC HT hlo
  go_enter Try.func47, Try.ntmps47
  go_wp2_with fail
  refine HC.out.mono ?_
  rintro e w2 ⟨rfl, hx⟩
  go_wp2
  go_ret
  exact ⟨ret_bool HT.out, hx⟩
theorem enters_all1 : Enters 48 := enters_of Try.func48 (by kernel_rfl) (by kernel_rfl)
set_option maxHeartbeats 400000 in
theorem all_any (a : Option Addr) (c f : Nat) (caps : Array Value) (os : List (Int × Int)) (p : Int × Int → Bool) (w : World) (hn : os.length ≤ 1048576) (hm : RowP w a os) (he : Enters f)
    (hf : ∀ w', w.Ext w' → ∀ i, i < os.length → Calls Try.prog f (#[spotV (os.getD i (0, 0))] ++ caps) w' fun e w'' => e = .returned (.bool (p (os.getD i (0, 0)))) ∧ w'.Ext w'') :
    Calls Try.prog 20 #[.slice a os.length c, .func (.func f) #[] caps] w fun e w' => e = .returned (.bool (os.all p)) ∧ w.Ext w' := by
  have hx0 : w.Ext (w.alloc (.cells #[.func (.func f) #[] caps] 54)) := by simp
  have HC := Lib.hid (containsFuncP_any a c 48 #[.pointer (some ⟨w.heap.size, 0, none⟩)] os (fun q => !p q) (w.alloc (.cells #[.func (.func f) #[] caps] 54)) hn (hm.ext hx0) enters_all1 (fun w' hx i hi => by
    have hcell : w'.cell? ⟨w.heap.size, 0, none⟩ = some (.func (.func f) #[] caps) := hx.cell (by simp [go_sem])
    have hlt : w.heap.size < w'.heap.size := World.block_lt_of_cell? _ _ hcell
    have HC := Lib.hid (hf (w'.alloc (.cells #[.int .i64 (os.getD i (0, 0)).1, .int .i64 (os.getD i (0, 0)).2] 33)) ((hx0.trans hx).alloc _) i hi)
    generalize p (os.getD i (0, 0)) = t at HC ⊢
    generalize os.getD i (0, 0) = z at HC ⊢
    unfold spotV at HC ⊢
    unfold Enters at he
    clear hf hx hi hm hx0 hn
    go_enter Try.func48, Try.ntmps48
    go_wp2_with fail
    refine HC.out.mono ?_
    rintro e w2 ⟨rfl, hx⟩
    go_wp2
    go_ret
    exact ⟨rfl, .trans (by simp) hx⟩))
  have HA : Hid (os.all p = !os.any fun q => !p q) := by show _ = _; rw [List.not_any_eq_all_not]; simp
  clear hn hm he hf hx0
  generalize os.all p = t at HA ⊢
  generalize (os.any fun q => !p q) = s at HC HA
  go_enter Try.func20, Try.ntmps20
  go_wp2_with fail
  refine HC.out.mono ?_
  rintro e w2 ⟨rfl, hx⟩
  go_wp2
  go_ret
  exact ⟨ret_bool HA.out.symm, .trans (by simp) hx⟩
end Go.Proofs.Ytelaoimcaidoiaa
namespace Go
open Go.RowKit
end Go
namespace Go.Proofs.Ytelaoimcaidoiaa
open Go.RowKit
/-- A picture and whether there is one are returned, in new memory. -/
def PicRet2 (w : World) (R : List ByteArray) (ok : Bool) (e : Ending) (w' : World) : Prop :=
  ∃ a c, e = .returned (.tuple #[.agg #[.slice a R.length c], .bool ok]) ∧ w.Ext w' ∧ OwnOf Value.string ByteArray.empty w.heap.size w'.heap.size w' a R
def rowsIf (ss : List ByteArray) (ok : Bool) (g : Nat → Nat → Bool) : List ByteArray := if ok then picRows (picW ss) ss.length (mkl (picW ss) ss.length g) else []
/-- What a picture is made of: a new image, or none. -/
def DoRet (w : World) (good : Bool) (W H : Nat) (l : List Bool) (e : Ending) (w' : World) : Prop :=
  if good then ImgRet w W H l e w' else e = .returned (.pointer none) ∧ w.Ext w'
theorem DoRet.no {w w' : World} {W H : Nat} {l : List Bool} {e : Ending} (h : DoRet w false W H l e w') : e = .returned (.pointer none) ∧ w.Ext w' := h
theorem DoRet.yes {w w' : World} {W H : Nat} {l : List Bool} {e : Ending} (h : DoRet w true W H l e w') : ImgRet w W H l e w' := h
def optRows (ok : Bool) (R : List ByteArray) : List ByteArray := if ok then R else []
theorem optRows_and (a b : Bool) (R : List ByteArray) : optRows (a && (b && true)) R = optRows (b && a) R := by cases a <;> cases b <;> rfl
theorem rowsIf_opt (ss : List ByteArray) (ok : Bool) (g : Nat → Nat → Bool) : rowsIf ss ok g = optRows ok (picRows (picW ss) ss.length (mkl (picW ss) ss.length g)) := rfl
theorem optRows_le (ok : Bool) (W H : Nat) (l : List Bool) (h : H ≤ 1048576) : (optRows ok (picRows W H l)).length ≤ 1048576 := by
  cases ok
  · simp [optRows]
  · simp [optRows, picRows_len, h]
end Go.Proofs.Ytelaoimcaidoiaa
namespace Go
open Go.RowKit
end Go
namespace Go.Proofs.Ytelaoimcaidoiaa
open Go.RowKit
theorem Try.infoSpot : (Try.prog.info? 33).map (fun i => (i.zero, i.size, i.bytes)) = some (some (.agg #[.int .i64 0, .int .i64 0]), 2, 16) := by kernel_rfl
/-- The black ones of the first k pixels. -/
def spotsTo (W : Nat) (l : List Bool) (k : Nat) : List (Int × Int) := ((List.range k).filter fun i => l.getD i false).map fun i => (((i % W : Nat) : Int), ((i / W : Nat) : Int))
theorem spotsTo_no {W : Nat} {l : List Bool} {k : Nat} (h : l.getD k false = false) : spotsTo W l (k + 1) = spotsTo W l k := by
  unfold spotsTo
  rw [List.range_succ, List.filter_append, List.filter_cons_of_neg (by rw [h]; decide), List.filter_nil, List.append_nil]
theorem spotsTo_yes {W : Nat} {l : List Bool} {x y : Nat} (hx : x < W) (h : l.getD (y * W + x) false = true) : spotsTo W l (y * W + x + 1) = spotsTo W l (y * W + x) ++ [((x : Int), (y : Int))] := by
  unfold spotsTo
  have e1 : (y * W + x) % W = x := by rw [Nat.mul_comm, Nat.mul_add_mod, Nat.mod_eq_of_lt hx]
  have e2 : (y * W + x) / W = y := by rw [Nat.mul_comm, Nat.mul_add_div (by omega), Nat.div_eq_of_lt hx]; rfl
  rw [List.range_succ, List.filter_append, List.map_append, List.filter_cons_of_pos (by rw [h]), List.filter_nil, List.map_cons, e1, e2]
  rfl
structure SpSt (w : World) (p1 p3 b W : Nat) (l : List Bool) (k : Nat) (wr : World) : Prop where
  x : w.Ext wr
  one : One wr p1 47 (.pointer (some ⟨b, 0, none⟩))
  grow : ∃ v, One wr p3 37 v ∧ GrowP w.heap.size 33 wr v (spotsTo W l k)
theorem spotsTo_len (W : Nat) (l : List Bool) (k : Nat) : (spotsTo W l k).length ≤ k := by
  unfold spotsTo
  rw [List.length_map]
  exact Nat.le_trans (List.length_filter_le _ _) (by simp)
set_option maxRecDepth 5000 in
set_option maxHeartbeats 1600000 in
theorem spots1_any (w : World) (p1 p3 b ab W H : Nat) (l : List Bool) (x y : Nat) (wr : World) (hW : W ≤ 64) (hH : H ≤ 64) (hI : Img w b ab W H l) (hx : x < W) (hy : y < H) (h3 : w.heap.size ≤ p3) (h13 : p1 ≠ p3) (hS : SpSt w p1 p3 b W l (y * W + x) wr) :
    Calls Try.prog 77 #[.int .i64 x, .int .i64 y, .pointer (some ⟨p1, 0, none⟩), .pointer (some ⟨p3, 0, none⟩)] wr fun e w' => e = .returned (.tuple #[]) ∧ SpSt w p1 p3 b W l (y * W + x + 1) w' := by
  obtain ⟨i0, hi, hz0, hz1, hz2⟩ := info_parts Try.infoSpot
  obtain ⟨hX, h1, v, hv, hg⟩ := hS
  have HG := Lib.hid (get_any b ab W H l x y wr hW hH (hI.ext hX) _ (pxl_at _ _ _ _ _ hx hy))
  have hk : y * W + x < 4096 := by
    have h5 : y * W ≤ 63 * 64 := Nat.mul_le_mul (by omega) hW
    omega
  have hn := spotsTo_len W l (y * W + x)
  have c1 := h1.cell
  have l1 := h1.lt
  have HX := Lib.hid hX
  have H1 := Lib.hid h1
  have HV := Lib.hid hv
  have HGR := Lib.hid hg
  clear hX h1 hv hg hI
  cases hb : l.getD (y * W + x) false
  · rw [hb] at HG
    have HN := Lib.hid (spotsTo_no (W := W) hb)
    clear hb hn
    go_enter Try.func77, Try.ntmps77
    go_wp2_with fail
    refine HG.out.mono ?_
    rintro e w2 ⟨rfl, hx2⟩
    have HS : Hid (SpSt w p1 p3 b W l (y * W + x + 1) w2) := ⟨HX.out.trans hx2, H1.out.ext hx2, v, HV.out.ext hx2, by rw [HN.out]; exact HGR.out.ext hx2⟩
    clear hx2
    go_wp2
    go_end0
    exact ⟨rfl, HS.out⟩
  · rw [hb] at HG
    have HN := Lib.hid (spotsTo_yes hx hb)
    have HB1 : Hid ((spotsTo W l (y * W + x)).length + 1 ≤ maxLen) := by show _ ≤ _; unfold maxLen; omega
    have HB2 : Hid (((spotsTo W l (y * W + x)).length + 1) * 16 ≤ 140737488355328) := by show _ ≤ _; omega
    clear hb hn hk
    go_enter Try.func77, Try.ntmps77
    go_wp2_with fail
    refine HG.out.mono ?_
    rintro e w2 ⟨rfl, hx2⟩
    have H12 := Lib.hid (H1.out.ext hx2)
    have HV2 := Lib.hid (HV.out.ext hx2)
    have hg2 := HGR.out.ext hx2
    have HG2 := Lib.hid hg2
    have HX2 := Lib.hid (HX.out.trans hx2)
    have c3 := HV2.out.cell
    have f3 := HV2.out.free
    have l3 := HV2.out.lt
    unfold GrowP at hg2
    have hown := hg2
    have hnext : ∀ (o' : Obj) (v' : Value) (w1 : World), (w2.alloc o').grownBy w1 v.ownBlock → w1.ownsRow w.heap.size 33 2 v' ((spotsTo W l (y * W + x)).length + 1) ((flatP (spotsTo W l (y * W + x))).map (Value.int .i64) ++ [.int .i64 x, .int .i64 y]) →
        w1.cell? ⟨p3, 0, none⟩ = some v ∧ w1.frozen? ⟨p3, 0, none⟩ = false ∧ Hid (SpSt w p1 p3 b W l (y * W + x + 1) (w1.setCell ⟨p3, 0, none⟩ v')) := fun o' v' w1 hgrow hown' => by
      have a1 := (H12.out.ext ((World.Ext.refl _).alloc o')).grown hgrow (World.ownsRow.ne HG2.out H12.out (by decide))
      have a3 := (HV2.out.ext ((World.Ext.refl _).alloc o')).grown hgrow (World.ownsRow.ne HG2.out HV2.out (by decide))
      have ax := World.ownsRow.pushExt HG2.out HX2.out hgrow
      have ag : GrowP w.heap.size 33 w1 v' (spotsTo W l (y * W + x) ++ [((x : Int), (y : Int))]) := GrowP.push hown'
      refine ⟨a3.cell, a3.free, ax.setCell (p := ⟨p3, 0, none⟩) h3 v', a1.other (a := ⟨p3, 0, none⟩) (Ne.symm h13) v', v', a3.set v', ?_⟩
      rw [HN.out]
      exact ag.setCell (a := ⟨p3, 0, none⟩) (World.ownsRow.ne ag a3 (by decide)) v'
    have HNEXT := Lib.hid hnext
    have HLE : ∀ o' : Obj, w.heap.size ≤ (w2.alloc o').heap.size := fun o' => (HX2.out.alloc o').size
    clear hnext hx2 HX HV HGR H1 hg2 c1 l1
    have c1 := H12.out.cell
    have l1 := H12.out.lt
    generalize spotsTo W l (y * W + x) = ps at *
    go_wp2_with (at_builtin; refine wpList_append_own _ rfl _ _ 37 rfl w.heap.size 33 i0 (.agg #[.int .i64 0, .int .i64 0]) 2 16 Try.underlying37 hi hz0 hz1 hz2 rfl (by decide) _ _ _ rfl (hown.alloc _) ⟨w2.heap.size, 0, none⟩ 1 1 [.int .i64 x, .int .i64 y] rfl rfl (cell_two_at (by simp)) (by simp [Value.oneCell']) HB1.out HB2.out (HLE _) (fun v' w1 hown' hgrow _ => ?_); obtain ⟨d3, e3, HS⟩ := HNEXT.out _ _ _ hgrow hown'; obtain ⟨a4, c4, rfl, _⟩ := World.ownsRow.form hown'; clear hgrow hown' hown c3 f3 c1 l1 l3)
    go_end0
    exact ⟨rfl, HS.out⟩
theorem enters_spots1 : Enters 77 := enters_of Try.func77 (by kernel_rfl) (by kernel_rfl)
/-- Pairs are returned, in new memory. -/
def PairsRet (w : World) (ps : List (Int × Int)) (e : Ending) (w' : World) : Prop := ∃ a c, e = .returned (.slice a ps.length c) ∧ w.Ext w' ∧ OwnP w.heap.size w'.heap.size w' a ps
set_option maxRecDepth 5000 in
set_option maxHeartbeats 1600000 in
theorem spots_any (b ab W H : Nat) (l : List Bool) (w : World) (hW : W ≤ 64) (hH : H ≤ 64) (hI : Img w b ab W H l) :
    Calls Try.prog 56 #[.pointer (some ⟨b, 0, none⟩)] w (PairsRet w (spotsTo W l (H * W))) := by
  obtain ⟨W0, hW0⟩ : ∃ W0, W0 = ((w.alloc (.cells #[.pointer (some ⟨b, 0, none⟩)] 47)).alloc (.cells #[] 33)).alloc (.cells #[.slice (some ⟨w.heap.size + 1, 0, none⟩) 0 0] 37) := ⟨_, rfl⟩
  have hx0 : w.Ext W0 := by rw [hW0]; repeat (first | exact World.Ext.refl _ | exact ⟨_, rfl⟩ | assumption | refine World.Ext.over ?_ _ | refine World.Ext.drewN ?_ _ | refine World.Ext.drew ?_ | refine World.Ext.alloc ?_ _ | refine World.Ext.setCell ?_ (by simp) _)
  have h1 : One W0 w.heap.size 47 (.pointer (some ⟨b, 0, none⟩)) := by
    rw [hW0]
    exact ((One.new w _ _ _ rfl).ext ((World.Ext.refl _).alloc _)).ext ((World.Ext.refl _).alloc _)
  have h3 : One W0 (w.heap.size + 1 + 1) 37 (.slice (some ⟨w.heap.size + 1, 0, none⟩) 0 0) := by
    rw [hW0]
    exact One.new _ _ _ _ (by simp)
  have hg : GrowP w.heap.size 33 W0 (.slice (some ⟨w.heap.size + 1, 0, none⟩) 0 0) [] := by
    rw [hW0]
    have h := (GrowP.empty (lo := w.heap.size) (e := 33) (w.alloc (.cells #[.pointer (some ⟨b, 0, none⟩)] 47)) (by simp)).ext ((World.Ext.refl _).alloc (.cells #[.slice (some ⟨w.heap.size + 1, 0, none⟩) 0 0] 37))
    simpa using h
  have key := each_any b 77 W H #[.pointer (some ⟨w.heap.size, 0, none⟩), .pointer (some ⟨w.heap.size + 1 + 1, 0, none⟩)] (fun k w' => SpSt w w.heap.size (w.heap.size + 1 + 1) b W l k w') W0 hW hH enters_spots1
    (fun k w' h => ⟨(hI.ext h.x).c0, (hI.ext h.x).c1⟩)
    (fun x y w' hx hy h => spots1_any w _ _ b ab W H l x y w' hW hH hI hx hy (by omega) (by omega) h)
    ⟨hx0, h1, _, h3, hg⟩
  have HK := Lib.hid key
  clear key hI hx0 h1 h3 hg
  go_enter Try.func56, Try.ntmps56
  go_wp2_with fail
  rw [← hW0]
  refine HK.out.mono ?_
  rintro e w2 ⟨rfl, hS⟩
  obtain ⟨hX, h1, v, hv, hg⟩ := hS
  obtain ⟨a, c, rfl, _⟩ := hg.form
  have c3 := hv.cell
  have HX := Lib.hid hX
  have HG := Lib.hid hg.own
  clear hX h1 hv hg hW0 HK
  go_wp2
  go_ret
  exact ⟨a, c, rfl, HX.out, HG.out⟩
def InBox (n : Int) (p : Int × Int) : Prop := 0 ≤ p.1 ∧ p.1 ≤ n ∧ 0 ≤ p.2 ∧ p.2 ≤ n
def AllBox (n : Int) (ps : List (Int × Int)) : Prop := ∀ i, i < ps.length → InBox n (ps.getD i (0, 0))
theorem spotsTo_box (W H : Nat) (l : List Bool) (hW : W ≤ 41) (hH : H ≤ 41) : AllBox 40 (spotsTo W l (H * W)) := by
  intro i hi
  have hmem : (spotsTo W l (H * W)).getD i (0, 0) ∈ spotsTo W l (H * W) := by
    rw [List.getD_eq_getElem?_getD, List.getElem?_eq_getElem hi]
    exact List.getElem_mem hi
  generalize (spotsTo W l (H * W)).getD i (0, 0) = q at hmem
  unfold spotsTo at hmem
  rw [List.mem_map] at hmem
  obtain ⟨k, hk, rfl⟩ := hmem
  have hk' : k < H * W := by
    have := (List.mem_filter.1 hk).1
    simpa using this
  have hW0 : 0 < W := by
    rcases Nat.eq_zero_or_pos W with e | e
    · rw [e] at hk'; simp at hk'
    · exact e
  have h1 : k % W < W := Nat.mod_lt _ hW0
  have h2 : k / W < H := Nat.div_lt_of_lt_mul (by rw [Nat.mul_comm]; exact hk')
  generalize k % W = r at *
  generalize k / W = s at *
  refine ⟨?_, ?_, ?_, ?_⟩ <;> dsimp only <;> omega
theorem allBox_mem {n : Int} {ps : List (Int × Int)} (h : AllBox n ps) {q : Int × Int} (hq : q ∈ ps) : InBox n q := by
  obtain ⟨i, hi, rfl⟩ := List.getElem_of_mem hq
  have := h i hi
  rwa [List.getD_eq_getElem?_getD, List.getElem?_eq_getElem hi] at this
theorem mkl_congr {W H : Nat} {g h : Nat → Nat → Bool} (e : ∀ x y, x < W → y < H → g x y = h x y) : mkl W H g = mkl W H h := by
  unfold mkl
  refine List.map_congr_left fun k hk => ?_
  have hk' : k < H * W := by simpa using hk
  have hW0 : 0 < W := by
    rcases Nat.eq_zero_or_pos W with e | e
    · rw [e] at hk'; simp at hk'
    · exact e
  exact e _ _ (Nat.mod_lt _ hW0) (Nat.div_lt_of_lt_mul (by rw [Nat.mul_comm]; exact hk'))
end Go.Proofs.Ytelaoimcaidoiaa
namespace Go.Proofs.Ytelaoimcaidoiaa
open Go.RowKit
theorem Try.infoI64G : (Try.prog.info? 2).map (fun i => (i.zero, i.size, i.bytes)) = some (some (.int .i64 0), 1, 8) := by kernel_rfl
/-- .. and within a row, that began in the world w1. -/
def RowSt (w1 : World) (g : Nat → Nat → Int) (u : Value) (y x : Nat) (wr : World) : Prop := w1.Ext wr ∧ GrowOf (Value.int .i64) w1.heap.size 2 wr u (grdRow g y x)
theorem RowSt.ext {w1 : World} {g : Nat → Nat → Int} {u : Value} {y x : Nat} {wr w' : World} (h : RowSt w1 g u y x wr) (hx : wr.Ext w') : RowSt w1 g u y x w' := ⟨h.1.trans hx, h.2.ext hx⟩
theorem RowSt.start (w1 : World) (g : Nat → Nat → Int) (y : Nat) : RowSt w1 g (.slice (some ⟨w1.heap.size, 0, none⟩) 0 0) y 0 (w1.alloc (.cells #[] 2)) := ⟨by repeat (first | exact World.Ext.refl _ | exact ⟨_, rfl⟩ | assumption | refine World.Ext.over ?_ _ | refine World.Ext.drewN ?_ _ | refine World.Ext.drew ?_ | refine World.Ext.alloc ?_ _ | refine World.Ext.setCell ?_ (by simp) _), GrowOf.empty _ (Nat.le_refl _)⟩
theorem RowSt.next {w1 w3 : World} {g : Nat → Nat → Int} {u : Value} {y x : Nat} (h : RowSt w1 g u y x w3) {o : Obj} {v' : Value} {w4 : World} (hgrow : (w3.alloc o).grownBy w4 u.ownBlock) (hown : w4.ownsRow w1.heap.size 2 1 v' ((grdRow g y x).length + 1) ((grdRow g y x).map (Value.int .i64) ++ [.int .i64 (g x y)])) :
    RowSt w1 g v' y (x + 1) w4 := ⟨h.2.pushExt h.1 hgrow, by rw [grdRow_succ]; exact GrowOf.push hown⟩
theorem RowSt.form {w1 w3 : World} {g : Nat → Nat → Int} {u : Value} {y x : Nat} (h : RowSt w1 g u y x w3) : ∃ a c, u = .slice a x c := by
  obtain ⟨a, c, e, _⟩ := h.2.form
  rw [grdRow_len] at e
  exact ⟨a, c, e⟩
end Go.Proofs.Ytelaoimcaidoiaa
