/- SizesOf, both sides. -/
import Derived.Test.YthfggdmbegofoaaElmI
import Derived.Test.YthfggdmbegofoaaMorS
import Derived.Test.YthfggdmbegofoaaCount
import Derived.Test.YthfggdmbegofoaaRecP
namespace Go.Proofs.Ythfggdmbegofoaa
open Go Go.RowKit
structure SbSt (W0 : World) (p3 : Nat) (ps : List (Int × Int)) (wr : World) : Prop where
  x : W0.Ext wr
  c : ∃ v, One wr p3 50 v ∧ GrowP W0.heap.size 47 wr v ps
theorem Try.infoSpotN : (Try.prog.info? 47).map (fun i => (i.zero, i.size, i.bytes)) = some (some (.agg #[.int .i64 0, .int .i64 0]), 2, 16) := by kernel_rfl
theorem spot_ne_el : 47 ≠ 50 := by decide
def ElRet1 (w : World) (ps : List (Int × Int)) (e : Ending) (w' : World) : Prop := ∃ a c, e = .returned (.agg #[.slice a ps.length c]) ∧ w.Ext w' ∧ OwnP w.heap.size w'.heap.size w' a ps
set_option maxRecDepth 5000 in
set_option maxHeartbeats 1600000 in
theorem l03Square_any (n : Nat) (w : World) (h1 : 1 ≤ n) (h5 : n ≤ 5) :
    Calls Try.prog 164 #[.int .i64 n] w (ElRet1 w (sqL n)) := by
  obtain ⟨iw, hiw, hz0, hz1, hz2⟩ := info_parts Try.infoSpotN
  obtain ⟨W0, hW0⟩ : ∃ W0, W0 = w.alloc (.cells #[.slice none 0 0] 50) := ⟨_, rfl⟩
  have hx0 : w.Ext W0 := by rw [hW0]; repeat (first | exact World.Ext.refl _ | exact ⟨_, rfl⟩ | assumption | refine World.Ext.over ?_ _ | refine World.Ext.drewN ?_ _ | refine World.Ext.drew ?_ | refine World.Ext.alloc ?_ _ | refine World.Ext.setCell ?_ (by simp) _)
  have hsz0 : W0.heap.size = w.heap.size + 1 := by rw [hW0]; simp
  have hone : One W0 w.heap.size 50 (.slice none 0 0) := by rw [hW0]; exact One.new _ _ _ _ rfl
  obtain ⟨W2, hW2⟩ : ∃ W2, W2 = (W0.alloc (.cells #[] 47)).alloc (.cells #[.slice (some ⟨w.heap.size + 1, 0, none⟩) 0 0] 50) := ⟨_, rfl⟩
  have hx2 : W0.Ext W2 := by rw [hW2]; repeat (first | exact World.Ext.refl _ | exact ⟨_, rfl⟩ | assumption | refine World.Ext.over ?_ _ | refine World.Ext.drewN ?_ _ | refine World.Ext.drew ?_ | refine World.Ext.alloc ?_ _ | refine World.Ext.setCell ?_ (by simp) _)
  have HS0 : Hid (SbSt W0 (w.heap.size + 1 + 1) ((sqL n).take (0 * n)) W2) := ⟨hx2, .slice (some ⟨w.heap.size + 1, 0, none⟩) 0 0, by rw [hW2]; exact One.new _ _ _ _ (by simp [hsz0]), by
    rw [Nat.zero_mul, List.take_zero, hW2, ← hsz0]
    exact (GrowP.empty W0 (Nat.le_refl _)).ext (by repeat (first | exact World.Ext.refl _ | exact ⟨_, rfl⟩ | assumption | refine World.Ext.over ?_ _ | refine World.Ext.drewN ?_ _ | refine World.Ext.drew ?_ | refine World.Ext.alloc ?_ _ | refine World.Ext.setCell ?_ (by simp) _))⟩
  have HX0 := Lib.hid hx0
  have HO := Lib.hid hone
  have hnn : n * n ≤ 25 := Nat.mul_le_mul h5 h5
  have HSL := Lib.hid (sqL_len n)
  have HST := Lib.hid (fun x y (hx : x < n) (hy : y < n) => sqL_take hx hy)
  rw [hW0] at hW2
  clear hx0 hone hx2
  go_enter Try.func164, Try.ntmps164
  go_wp2
  rw [← hW2]
  clear hW2 hW0
  go_loopw [4] (fun i wr => ∃ y : Nat, y ≤ n ∧ i = .int .i64 y ∧ Hid (SbSt W0 (w.heap.size + 1 + 1) ((sqL n).take (y * n)) wr)) (fun i _ => n - (intOf i).toNat)
  case atStart => exact ⟨0, Nat.zero_le _, rfl, HS0⟩
  case round =>
    clear HS0
    obtain ⟨y, hy, rfl, HS⟩ := hrel
    obtain ⟨wo, rfl⟩ : ∃ wo : World, wo = wr := ⟨_, rfl⟩
    by_cases hlty : y < n
    · have hlty' : (y : Int) < (n : Int) := by omega
      have hy0 : (0 : Int) ≤ (y : Int) := by omega
      have HS1 : Hid (SbSt W0 (w.heap.size + 1 + 1) ((sqL n).take (y * n + 0)) wo) := HS
      clear HS
      go_wp2
      go_loopw [5] (fun i wr => ∃ x : Nat, x ≤ n ∧ i = .int .i64 x ∧ Hid (SbSt W0 (w.heap.size + 1 + 1) ((sqL n).take (y * n + x)) wr)) (fun i _ => n - (intOf i).toNat)
      case atStart => exact ⟨0, Nat.zero_le _, rfl, HS1⟩
      case round =>
        clear HS1
        obtain ⟨x, hx, rfl, HS⟩ := hrel
        obtain ⟨wp, rfl⟩ : ∃ wp : World, wp = wr := ⟨_, rfl⟩
        by_cases hltx : x < n
        · have hltx' : (x : Int) < (n : Int) := by omega
          have hx0 : (0 : Int) ≤ (x : Int) := by omega
          have HT := Lib.hid (HST.out x y hltx hlty)
          have hlen : ((sqL n).take (y * n + x)).length ≤ 25 := by rw [List.length_take, HSL.out]; omega
          have HB1 : Hid (((sqL n).take (y * n + x)).length + 1 ≤ maxLen) := by show _ ≤ _; unfold maxLen; omega
          have HB2 : Hid ((((sqL n).take (y * n + x)).length + 1) * 16 ≤ 140737488355328) := by show _ ≤ _; omega
          obtain ⟨v, hone, hgr⟩ := HS.out.c
          have hX := HS.out.x
          have hown : wp.ownsRow W0.heap.size 47 2 v ((sqL n).take (y * n + x)).length ((flatP ((sqL n).take (y * n + x))).map (Value.int .i64)) := hgr
          have hlo := hX.size
          have hne : some (w.heap.size + 1 + 1) ≠ v.ownBlock := World.ownsRow.ne hown hone spot_ne_el
          have HLE : Hid (∀ o : Obj, W0.heap.size ≤ (wp.alloc o).heap.size) := fun o => by simp; omega
          have HNX : Hid (∀ (o : Obj) (v' : Value) (w4 : World), (wp.alloc o).grownBy w4 v.ownBlock → w4.ownsRow W0.heap.size 47 2 v' (((sqL n).take (y * n + x)).length + 1) ((flatP ((sqL n).take (y * n + x))).map (Value.int .i64) ++ [.int .i64 x, .int .i64 y]) → One w4 (w.heap.size + 1 + 1) 50 v ∧ SbSt W0 (w.heap.size + 1 + 1) ((sqL n).take (y * n + (x + 1))) (w4.setCell ⟨w.heap.size + 1 + 1, 0, none⟩ v')) := fun o v' w4 hg ho => by
            have h1 : One w4 (w.heap.size + 1 + 1) 50 v := (hone.ext (World.Ext.alloc (.refl _) o)).grown hg hne
            refine ⟨h1, World.Ext.setCell (World.ownsRow.pushExt hown hX hg) (by simp only; omega) _, v', h1.set v', ?_⟩
            rw [HT.out]
            exact GrowP.setCell (a := ⟨w.heap.size + 1 + 1, 0, none⟩) (GrowP.push (p := ((x : Int), (y : Int))) ho) (World.ownsRow.ne ho h1 spot_ne_el) _
          have k3 := hone.cell
          have l3 := hone.lt
          clear HS hlen hlo hgr hX hone hne
          generalize ((sqL n).take (y * n + x)).length = N at *
          go_wp2_with (at_builtin; refine wpList_append_own _ rfl _ _ 44 rfl W0.heap.size 47 iw (.agg #[.int .i64 0, .int .i64 0]) 2 16 Try.underlying44 hiw hz0 hz1 hz2 rfl (by decide) _ _ _ rfl (hown.alloc _) ⟨wp.heap.size, 0, none⟩ 1 1 [.int .i64 x, .int .i64 y] rfl rfl (cell_two_new _ _ _ _) (by simp [Value.oneCell']) HB1.out HB2.out (HLE.out _) (fun v' w4 hown' hgrow _ => ?_); obtain ⟨a4, c4, rfl, _⟩ := World.ownsRow.form hown'; have hq := HNX.out _ _ _ hgrow hown'; have r1 := hq.1.cell; have r2 := hq.1.free; have HS9 := Lib.hid hq.2; clear hq hgrow hown' hown k3 l3)
          go_roundw
          case rel => exact ⟨x + 1, by omega, by go_num, HS9⟩
          case measure => simp [intOf]; omega
        · have hxe : x = n := by omega
          have HS9 : Hid (SbSt W0 (w.heap.size + 1 + 1) ((sqL n).take ((y + 1) * n)) wp) := by
            have h := HS.out
            rw [hxe, ← Nat.succ_mul] at h
            exact h
          clear HS
          go_wp2
          go_roundw
          case rel => exact ⟨y + 1, by omega, by go_num, HS9⟩
          case measure => simp [intOf]; omega
    · have hye : y = n := by omega
      have HS9 : Hid (SbSt W0 (w.heap.size + 1 + 1) (sqL n) wo) := by
        have h := HS.out
        rw [hye, List.take_of_length_le (by rw [HSL.out]; exact Nat.le_refl _)] at h
        exact h
      obtain ⟨v, hone, hgr⟩ := HS9.out.c
      obtain ⟨a, cap, rfl, hcap⟩ := hgr.form
      have hone5 := HO.out.ext HS9.out.x
      have k3 := hone.cell
      have l3 := hone.lt
      have r1 := hone5.cell
      have r2 := hone5.free
      have HFIN : Hid (One (wo.setCell ⟨w.heap.size, 0, none⟩ (.slice a (sqL n).length cap)) w.heap.size 50 (.slice a (sqL n).length cap) ∧ ElRet1 w (sqL n) (.returned (.agg #[.slice a (sqL n).length cap])) (wo.setCell ⟨w.heap.size, 0, none⟩ (.slice a (sqL n).length cap))) := by
        refine ⟨hone5.set _, a, cap, rfl, (HX0.out.trans HS9.out.x).setCell (Nat.le_refl _) _, ?_⟩
        have h := GrowP.setCell hgr (a := ⟨w.heap.size, 0, none⟩) (World.ownsRow.ne hgr hone5 spot_ne_el) (.slice a (sqL n).length cap)
        exact OwnP.mono (GrowP.own h) (show w.heap.size ≤ W0.heap.size by omega) (Nat.le_refl _)
      have r3 := HFIN.out.1.cell
      have hl5 := hone5.lt
      clear HS HS9 hone hgr hone5
      generalize (sqL n).length = N at *
      go_wp2
      exact bodyPost_ret (v := .agg #[.slice a N cap]) (by simp [results, Try.results164, go_sem, r3]) rfl HFIN.out.2
/-- How many pixels an opening by a square has. -/
def szCnt (ss : List ByteArray) (n : Nat) : Int := ((spotsTo (picW ss) (mkl (picW ss) ss.length fun x y => openB (picW ss) ss.length (picL ss) (sqL n) x y) (ss.length * picW ss)).length : Nat)
def szTo (ss : List ByteArray) (k : Nat) : List Int := (List.range k).map fun i => szCnt ss (i + 1)
theorem szTo_len (ss : List ByteArray) (k : Nat) : (szTo ss k).length = k := by simp [szTo]
theorem szTo_succ (ss : List ByteArray) (k : Nat) : szTo ss (k + 1) = szTo ss k ++ [szCnt ss (k + 1)] := by simp [szTo, List.range_succ]
def ifZ (ok : Bool) (xs : List Int) : List Int := if ok then xs else []
def ZsRet2 (w : World) (xs : List Int) (ok : Bool) (e : Ending) (w' : World) : Prop := ∃ a c, e = .returned (.tuple #[.slice a xs.length c, .bool ok]) ∧ w.Ext w' ∧ OwnOf (Value.int .i64) 0 w.heap.size w'.heap.size w' a xs
theorem siz_bnd (ss : List ByteArray) : (ifZ (picOk ss) (szTo ss 5)).length ≤ 1048576 := by
  cases picOk ss
  · simp [ifZ]
  · show (szTo ss 5).length ≤ _
    rw [szTo_len]
    omega
theorem sq_small {n : Nat} (h1 : 1 ≤ n) (h5 : n ≤ 5) : Small (sqL n) := fun i hi => (elemOk_spec (sqL_ok n h1 h5)).2.2 i hi
theorem Try.infoIntZ : (Try.prog.info? 2).map (fun i => (i.zero, i.size, i.bytes)) = some (some (.int .i64 0), 1, 8) := by kernel_rfl
set_option maxRecDepth 5000 in
set_option maxHeartbeats 1600000 in
theorem specSizes_any (a : Option Addr) (c : Nat) (ss : List ByteArray) (w : World) (hb : PicBnd ss) (hm : RowS w a ss) :
    Calls Try.prog 61 #[.agg #[.slice a ss.length c]] w (ZsRet2 w (ifZ (picOk ss) (szTo ss 5)) (picOk ss)) := by
  obtain ⟨ib, hib, hb0, hb1, hb2⟩ := info_parts Try.infoIntZ
  obtain ⟨W0, hW0⟩ : ∃ W0, W0 = w.alloc (.cells #[.slice a ss.length c] 38) := ⟨_, rfl⟩
  have hx0 : w.Ext W0 := by rw [hW0]; repeat (first | exact World.Ext.refl _ | exact ⟨_, rfl⟩ | assumption | refine World.Ext.over ?_ _ | refine World.Ext.drewN ?_ _ | refine World.Ext.drew ?_ | refine World.Ext.alloc ?_ _ | refine World.Ext.setCell ?_ (by simp) _)
  have d0 : W0.cell? ⟨w.heap.size, 0, none⟩ = some (.slice a ss.length c) := by rw [hW0]; simp [go_sem]
  have HI : Hid (Calls Try.prog 163 #[.pointer (some ⟨w.heap.size, 0, none⟩)] W0 fun e w' => e = .returned (.bool (picOk ss)) ∧ W0.Ext w') := l01Is_any _ a c ss W0 hb.1 hb.2 d0 (hm.ext hx0) _ rfl
  have HX0 := Lib.hid hx0
  cases h : picOk ss
  · rw [h] at HI
    clear hb hm hx0 d0 h
    show Calls _ _ _ _ (ZsRet2 w [] false)
    go_enter Try.func61, Try.ntmps61
    go_wp2_with fail
    rw [← hW0]
    refine HI.out.mono ?_
    rintro e w1 ⟨rfl, hx1⟩
    have HR : Hid (ZsRet2 w [] false (.returned (.tuple #[.slice none 0 0, .bool false])) w1) := ⟨none, 0, rfl, HX0.out.trans hx1, OwnOf.nil _ _⟩
    clear hx1 hW0
    go_wp2
    go_ret2
    exact HR.out
  · rw [h] at HI
    obtain ⟨v1, v2, v3, v4, e1, -⟩ := picOk_spec h
    have hpb := hb
    have HMK : Hid (∀ w' pe ae ce n, W0.Ext w' → 1 ≤ n → n ≤ 5 → w'.cell? ⟨pe, 0, none⟩ = some (.slice ae (sqL n).length ce) → RowP w' ae (sqL n) → Calls Try.prog 165 #[.pointer (some ⟨w.heap.size, 0, none⟩), .pointer (some ⟨pe, 0, none⟩), .int .i64 2] w' fun e w'' => ∃ a' c', e = .returned (.agg #[.slice a' ss.length c']) ∧ w'.Ext w'' ∧ OwnOf Value.string ByteArray.empty w'.heap.size w''.heap.size w'' a' (picRows (picW ss) ss.length (mkl (picW ss) ss.length fun x y => openB (picW ss) ss.length (picL ss) (sqL n) x y))) := fun w' pe ae ce n hx h1 h5 hpe hre =>
      l03Make_any w.heap.size pe 2 a c ss w' e1 v3 (by omega) (by omega) (hx.cell d0) ((hm.ext hx0).ext hx) _ fun w'' hx' x y hxW hyH =>
        l03Pixel2_any w.heap.size pe a c ss ae ce (sqL n) x y w'' e1 hpb.1 (by omega) ((hx.trans hx').cell d0) (((hm.ext hx0).ext hx).ext hx') (hx'.cell hpe) (RowOf.ext hre hx') (by rw [sqL_len]; exact Nat.le_trans (Nat.mul_le_mul h5 h5) (by omega)) (sq_small h1 h5) (by omega) (by omega) _ rfl
    have HCN : Hid (∀ w' p a' c' (g : Nat → Nat → Bool), w'.cell? ⟨p, 0, none⟩ = some (.slice a' ss.length c') → RowS w' a' (picRows (picW ss) ss.length (mkl (picW ss) ss.length g)) → Calls Try.prog 166 #[.pointer (some ⟨p, 0, none⟩)] w' fun e w'' => e = .returned (.int .i64 (spotsTo (picW ss) (mkl (picW ss) ss.length g) (ss.length * picW ss)).length) ∧ w'.Ext w'') := fun w' p a' c' g hp hr => by
      have hl : (mkl (picW ss) ss.length g).length = picW ss * ss.length := by rw [mkl_len, Nat.mul_comm]
      have hH : 0 < ss.length := by omega
      have h := l01Count_any p a' c' (picRows (picW ss) ss.length (mkl (picW ss) ss.length g)) w' (even_rows hH hl) (by rw [picRows_len]; omega) (by rw [picW_rows hH hl]; omega) (by rw [picRows_len]; exact hp) hr
      rw [picW_rows hH hl, picL_rows hl, picRows_len] at h
      exact h
    have HSQ : Hid (∀ (n : Nat) (w' : World), 1 ≤ n → n ≤ 5 → Calls Try.prog 164 #[.int .i64 n] w' (ElRet1 w' (sqL n))) := fun n w' h1 h5 => l03Square_any n w' h1 h5
    have HZT := Lib.hid (szTo_succ ss)
    have HZC : Hid (∀ n, szCnt ss n = ((spotsTo (picW ss) (mkl (picW ss) ss.length fun x y => openB (picW ss) ss.length (picL ss) (sqL n) x y) (ss.length * picW ss)).length : Nat)) := fun n => rfl
    have HZL := Lib.hid (szTo_len ss)
    have HB0 : Hid (∀ g : Nat → Nat → Bool, ((spotsTo (picW ss) (mkl (picW ss) ss.length g) (ss.length * picW ss)).length : Nat) ≤ 4096) := fun g => Nat.le_trans (spotsTo_len _ _ _) (Nat.mul_le_mul (show ss.length ≤ 64 by omega) (show picW ss ≤ 64 by omega))
    show Calls _ _ _ _ (ZsRet2 w (szTo ss 5) true)
    have hZ0 : szTo ss 0 = [] := rfl
    clear hb hm hx0 d0 h hpb v1 v2 v3 v4 e1
    generalize szTo ss = Z at *
    go_enter Try.func61, Try.ntmps61
    go_wp2_with fail
    rw [← hW0]
    clear hW0
    refine HI.out.mono ?_
    rintro e w1 ⟨rfl, hx1⟩
    obtain ⟨w2, hw2⟩ : ∃ w2, w2 = w1.alloc (.cells #[] 2) := ⟨_, rfl⟩
    have hsz1 := hx1.size
    have HS0 : Hid (W0.Ext w2 ∧ GrowOf (Value.int .i64) W0.heap.size 2 w2 (.slice (some ⟨w1.heap.size, 0, none⟩) 0 0) (Z 0)) := by rw [hw2, hZ0]; exact ⟨hx1.trans (by repeat (first | exact World.Ext.refl _ | exact ⟨_, rfl⟩ | assumption | refine World.Ext.over ?_ _ | refine World.Ext.drewN ?_ _ | refine World.Ext.drew ?_ | refine World.Ext.alloc ?_ _ | refine World.Ext.setCell ?_ (by simp) _)), GrowOf.empty w1 hsz1⟩
    clear hx1 hZ0 HI
    go_wp2
    rw [← hw2]
    clear hw2
    go_loopw [4, 5] (fun v i wr => ∃ k : Nat, k ≤ 5 ∧ i = .int .i64 ((k + 1 : Nat) : Int) ∧ Hid (W0.Ext wr ∧ GrowOf (Value.int .i64) W0.heap.size 2 wr v (Z k))) (fun _ i _ => 6 - (intOf i).toNat)
    case atStart => exact ⟨0, Nat.zero_le _, rfl, HS0⟩
    case round =>
      clear HS0
      obtain ⟨k, hk, rfl, HS⟩ := hrel
      obtain ⟨wo, rfl⟩ : ∃ wo : World, wo = wr := ⟨_, rfl⟩
      by_cases hlt : k < 5
      · have hlt' : ((k + 1 : Nat) : Int) ≤ 5 := by omega
        have hk0 : (0 : Int) ≤ ((k + 1 : Nat) : Int) := by omega
        have HSC := Lib.hid (HSQ.out (k + 1) wo (by omega) (by omega))
        have HMC := Lib.hid (fun w' pe ae ce hx => HMK.out w' pe ae ce (k + 1) hx (by omega) (by omega))
        have HZE := Lib.hid (HZC.out (k + 1))
        have HZK := Lib.hid (HZT.out k)
        have HLK := Lib.hid (HZL.out k)
        generalize (sqL (k + 1)) = sq at *
        go_wp2_with fail
        refine HSC.out.mono ?_
        rintro e w3 ⟨a3, c3, rfl, hx3, ho3⟩
        obtain ⟨w4, hw4⟩ : ∃ w4, w4 = w3.alloc (.cells #[.slice a3 sq.length c3] 50) := ⟨_, rfl⟩
        have hx4 : w3.Ext w4 := by rw [hw4]; repeat (first | exact World.Ext.refl _ | exact ⟨_, rfl⟩ | assumption | refine World.Ext.over ?_ _ | refine World.Ext.drewN ?_ _ | refine World.Ext.drew ?_ | refine World.Ext.alloc ?_ _ | refine World.Ext.setCell ?_ (by simp) _)
        have hc4 : w4.cell? ⟨w3.heap.size, 0, none⟩ = some (.slice a3 sq.length c3) := by rw [hw4]; simp [go_sem]
        have HX4 : Hid (W0.Ext w4) := HS.out.1.trans (hx3.trans hx4)
        have HMD := Lib.hid (HMC.out w4 w3.heap.size a3 c3 HX4.out hc4 (RowOf.ext ho3.row hx4))
        have HG4 := Lib.hid (HS.out.2.ext (hx3.trans hx4))
        clear hx3 ho3 hx4 hc4 HS HSC HMC
        go_wp2_with fail
        rw [← hw4]
        clear hw4
        refine HMD.out.mono ?_
        rintro e w5 ⟨a5, c5, rfl, hx5, ho5⟩
        obtain ⟨w6, hw6⟩ : ∃ w6, w6 = w5.alloc (.cells #[.slice a5 ss.length c5] 38) := ⟨_, rfl⟩
        have hx6 : w5.Ext w6 := by rw [hw6]; repeat (first | exact World.Ext.refl _ | exact ⟨_, rfl⟩ | assumption | refine World.Ext.over ?_ _ | refine World.Ext.drewN ?_ _ | refine World.Ext.drew ?_ | refine World.Ext.alloc ?_ _ | refine World.Ext.setCell ?_ (by simp) _)
        have hc6 : w6.cell? ⟨w5.heap.size, 0, none⟩ = some (.slice a5 ss.length c5) := by rw [hw6]; simp [go_sem]
        have HX6 := Lib.hid (HX4.out.trans (hx5.trans hx6))
        have HG6 := Lib.hid (HG4.out.ext (hx5.trans hx6))
        have HCC := Lib.hid (HCN.out w6 w5.heap.size a5 c5 _ hc6 (RowOf.ext ho5.row hx6))
        have HBC := Lib.hid (HB0.out fun x y => openB (picW ss) ss.length (picL ss) sq x y)
        clear hx5 hx6 ho5 hc6 HMD HX4 HG4
        generalize (spotsTo (picW ss) (mkl (picW ss) ss.length fun x y => openB (picW ss) ss.length (picL ss) sq x y) (ss.length * picW ss)).length = N at *
        go_wp2_with fail
        rw [← hw6]
        clear hw6
        refine HCC.out.mono ?_
        rintro e w7 ⟨rfl, hx7⟩
        have hX7 := HX6.out.trans hx7
        have hg7 := HG6.out.ext hx7
        have hown : w7.ownsRow W0.heap.size 2 1 u4 k ((Z k).map (Value.int .i64)) := by have h := hg7; unfold GrowOf at h; rw [HLK.out] at h; exact h
        have hlo := hX7.size
        have HLE : Hid (∀ o : Obj, W0.heap.size ≤ (w7.alloc o).heap.size) := fun o => by simp; omega
        have HB1 : Hid (k + 1 ≤ maxLen) := by show _ ≤ _; unfold maxLen; omega
        have HB2 : Hid ((k + 1) * 8 ≤ 140737488355328) := by show _ ≤ _; omega
        have HNX : Hid (∀ (o : Obj) (v' : Value) (w4 : World), (w7.alloc o).grownBy w4 u4.ownBlock → w4.ownsRow W0.heap.size 2 1 v' (k + 1) ((Z k).map (Value.int .i64) ++ [.int .i64 (N : Nat)]) → W0.Ext w4 ∧ GrowOf (Value.int .i64) W0.heap.size 2 w4 v' (Z (k + 1))) := fun o v' w4 hg ho => by
          refine ⟨GrowOf.pushExt hg7 hX7 hg, ?_⟩
          rw [HZK.out, HZE.out]
          exact GrowOf.push (by rw [HLK.out]; exact ho)
        clear hx7 hX7 hg7 hlo HX6 HG6 HCC
        go_wp2_with (at_builtin; refine wpList_append_own _ rfl _ _ 28 rfl W0.heap.size 2 ib (.int .i64 0) 1 8 Try.underlying28 hib hb0 hb1 hb2 rfl (by decide) _ _ _ rfl (hown.alloc _) ⟨w7.heap.size, 0, none⟩ 1 1 [.int .i64 (N : Nat)] rfl rfl (cell_one_new _ _ _) (by simp [Value.oneCell']) HB1.out HB2.out (HLE.out _) (fun v' w8 hown' hgrow _ => ?_); have HS9 := Lib.hid (HNX.out _ _ _ hgrow hown'); clear hgrow hown' hown)
        go_roundw
        case rel => exact ⟨k + 1, by omega, by go_num, HS9⟩
        case measure => simp [intOf]; omega
      · have hke : k = 5 := by omega
        subst hke
        obtain ⟨a9, c9, rfl, -⟩ := HS.out.2.form
        have HR : Hid (ZsRet2 w (Z 5) true (.returned (.tuple #[.slice a9 (Z 5).length c9, .bool true])) wo) := ⟨a9, c9, rfl, HX0.out.trans HS.out.1, OwnOf.mono (GrowOf.own 0 HS.out.2) HX0.out.size (Nat.le_refl _)⟩
        clear HS
        go_wp2
        go_ret2
        exact HR.out
set_option maxRecDepth 5000 in
set_option maxHeartbeats 1600000 in
theorem implSizes_any (a : Option Addr) (c : Nat) (ss : List ByteArray) (w : World) (hb : PicBnd ss) (hm : RowS w a ss) :
    Calls Try.prog 55 #[.agg #[.slice a ss.length c]] w (ZsRet2 w (ifZ (picOk ss) (szTo ss 5)) (picOk ss)) := by
  obtain ⟨ib, hib, hb0, hb1, hb2⟩ := info_parts Try.infoIntZ
  obtain ⟨W0, hW0⟩ : ∃ W0, W0 = w.alloc (.cells #[.slice a ss.length c] 38) := ⟨_, rfl⟩
  have hx0 : w.Ext W0 := by rw [hW0]; repeat (first | exact World.Ext.refl _ | exact ⟨_, rfl⟩ | assumption | refine World.Ext.over ?_ _ | refine World.Ext.drewN ?_ _ | refine World.Ext.drew ?_ | refine World.Ext.alloc ?_ _ | refine World.Ext.setCell ?_ (by simp) _)
  have HIO : Hid (Calls Try.prog 94 #[.agg #[.slice a ss.length c]] W0 (ImgOf W0 ss (picOk ss))) := imageOf_any a c ss W0 hb.1 hb.2 (hm.ext hx0) _ rfl
  have HX0 := Lib.hid hx0
  cases h : picOk ss
  · rw [h] at HIO
    clear hb hm hx0 h
    show Calls _ _ _ _ (ZsRet2 w [] false)
    go_enter Try.func55, Try.ntmps55
    go_wp2_with fail
    rw [← hW0]
    refine HIO.out.mono ?_
    rintro e w1 ⟨rfl, hx1⟩
    have HR : Hid (ZsRet2 w [] false (.returned (.tuple #[.slice none 0 0, .bool false])) w1) := ⟨none, 0, rfl, HX0.out.trans hx1, OwnOf.nil _ _⟩
    clear hx1 hW0
    go_wp2
    go_ret2
    exact HR.out
  · rw [h] at HIO
    obtain ⟨v1, v2, v3, v4, e1, -⟩ := picOk_spec h
    have HOP : Hid (∀ w' b ab ae ce n, Img w' b ab (picW ss) ss.length (picL ss) → 1 ≤ n → n ≤ 5 → RowP w' ae (sqL n) → Calls Try.prog 145 #[.pointer (some ⟨b, 0, none⟩), .slice ae (sqL n).length ce] w' (ImgRet w' (picW ss) ss.length (mkl (picW ss) ss.length fun x y => openB (picW ss) ss.length (picL ss) (sqL n) x y))) := fun w' b ab ae ce n hI h1 h5 hr =>
      opened_any b ab (picW ss) ss.length (picL ss) ae ce (sqL n) w' (by omega) (by omega) hI (by rw [sqL_len]; exact Nat.le_trans (Nat.mul_le_mul h5 h5) (by omega)) hr (sq_small h1 h5)
    have HCN : Hid (∀ w' b ab l, Img w' b ab (picW ss) ss.length l → Calls Try.prog 127 #[.pointer (some ⟨b, 0, none⟩)] w' fun e w'' => e = .returned (.int .i64 (spotsTo (picW ss) l (ss.length * picW ss)).length) ∧ w'.Ext w'') := fun w' b ab l hI => count_any b ab _ _ _ w' (by omega) (by omega) hI
    have HSQ : Hid (∀ (n : Nat) (w' : World), 1 ≤ n → n ≤ 5 → Calls Try.prog 153 #[.int .i64 n] w' (ElRet w' (sqL n))) := fun n w' h1 h5 => square_any n w' h1 h5
    have HZT := Lib.hid (szTo_succ ss)
    have HZC : Hid (∀ n, szCnt ss n = ((spotsTo (picW ss) (mkl (picW ss) ss.length fun x y => openB (picW ss) ss.length (picL ss) (sqL n) x y) (ss.length * picW ss)).length : Nat)) := fun n => rfl
    have HZL := Lib.hid (szTo_len ss)
    show Calls _ _ _ _ (ZsRet2 w (szTo ss 5) true)
    have hZ0 : szTo ss 0 = [] := rfl
    clear hb hm hx0 h v1 v2 v3 v4 e1
    generalize szTo ss = Z at *
    go_enter Try.func55, Try.ntmps55
    go_wp2_with fail
    rw [← hW0]
    clear hW0
    refine HIO.out.mono ?_
    rintro e w1 ⟨b1, ab1, rfl, hx1, hi1, -, -⟩
    have HI1 := Lib.hid hi1
    obtain ⟨w2, hw2⟩ : ∃ w2, w2 = w1.alloc (.cells #[] 2) := ⟨_, rfl⟩
    have hsz1 := hx1.size
    have HX1 := Lib.hid (HX0.out.trans hx1)
    have HS0 : Hid (w1.Ext w2 ∧ GrowOf (Value.int .i64) w1.heap.size 2 w2 (.slice (some ⟨w1.heap.size, 0, none⟩) 0 0) (Z 0)) := by rw [hw2, hZ0]; exact ⟨by repeat (first | exact World.Ext.refl _ | exact ⟨_, rfl⟩ | assumption | refine World.Ext.over ?_ _ | refine World.Ext.drewN ?_ _ | refine World.Ext.drew ?_ | refine World.Ext.alloc ?_ _ | refine World.Ext.setCell ?_ (by simp) _), GrowOf.empty w1 (Nat.le_refl _)⟩
    clear hx1 hi1 hZ0 HIO
    go_wp2
    rw [← hw2]
    clear hw2
    go_loopw [6, 7] (fun v i wr => ∃ k : Nat, k ≤ 5 ∧ i = .int .i64 ((k + 1 : Nat) : Int) ∧ Hid (w1.Ext wr ∧ GrowOf (Value.int .i64) w1.heap.size 2 wr v (Z k))) (fun _ i _ => 6 - (intOf i).toNat)
    case atStart => exact ⟨0, Nat.zero_le _, rfl, HS0⟩
    case round =>
      clear HS0
      obtain ⟨k, hk, rfl, HS⟩ := hrel
      obtain ⟨wo, rfl⟩ : ∃ wo : World, wo = wr := ⟨_, rfl⟩
      by_cases hlt : k < 5
      · have hlt' : ((k + 1 : Nat) : Int) ≤ 5 := by omega
        have hk0 : (0 : Int) ≤ ((k + 1 : Nat) : Int) := by omega
        have HSC := Lib.hid (HSQ.out (k + 1) wo (by omega) (by omega))
        have HMC := Lib.hid (fun w' b ab ae ce hI => HOP.out w' b ab ae ce (k + 1) hI (by omega) (by omega))
        have HZE := Lib.hid (HZC.out (k + 1))
        have HZK := Lib.hid (HZT.out k)
        have HLK := Lib.hid (HZL.out k)
        generalize (sqL (k + 1)) = sq at *
        go_wp2_with fail
        refine HSC.out.mono ?_
        rintro e w3 ⟨a3, c3, rfl, hx3, ho3⟩
        obtain ⟨w4, hw4⟩ : ∃ w4, w4 = w3.alloc (.cells #[.slice a3 sq.length c3] 50) := ⟨_, rfl⟩
        have hx4 : w3.Ext w4 := by rw [hw4]; repeat (first | exact World.Ext.refl _ | exact ⟨_, rfl⟩ | assumption | refine World.Ext.over ?_ _ | refine World.Ext.drewN ?_ _ | refine World.Ext.drew ?_ | refine World.Ext.alloc ?_ _ | refine World.Ext.setCell ?_ (by simp) _)
        have hc4 : w4.cell? ⟨w3.heap.size, 0, none⟩ = some (.slice a3 sq.length c3) := by rw [hw4]; simp [go_sem]
        have lc4 := World.block_lt_of_cell? _ _ hc4
        have HX4 : Hid (w1.Ext w4) := HS.out.1.trans (hx3.trans hx4)
        have HMD := Lib.hid (HMC.out w4 b1 ab1 a3 c3 (HI1.out.ext HX4.out) (RowOf.ext ho3.row hx4))
        have HG4 := Lib.hid (HS.out.2.ext (hx3.trans hx4))
        clear hx3 ho3 hx4 HS HSC HMC
        go_upto_region 9 with fail
        rw [← hw4]
        clear hw4
        go_wp2_with fail
        refine HMD.out.mono ?_
        rintro e w6 ⟨b6, ab6, rfl, hx6, hi6, -, -⟩
        have HX6 := Lib.hid (HX4.out.trans hx6)
        have HG6 := Lib.hid (HG4.out.ext hx6)
        have HCC := Lib.hid (HCN.out w6 b6 ab6 _ hi6)
        clear hx6 hi6 HMD HX4 HG4 hc4 lc4
        generalize (spotsTo (picW ss) (mkl (picW ss) ss.length fun x y => openB (picW ss) ss.length (picL ss) sq x y) (ss.length * picW ss)).length = N at *
        go_wp2_with fail
        refine HCC.out.mono ?_
        rintro e w7 ⟨rfl, hx7⟩
        have hX7 := HX6.out.trans hx7
        have hg7 := HG6.out.ext hx7
        have hown : w7.ownsRow w1.heap.size 2 1 u6 k ((Z k).map (Value.int .i64)) := by have h := hg7; unfold GrowOf at h; rw [HLK.out] at h; exact h
        have hlo := hX7.size
        have HLE : Hid (∀ o : Obj, w1.heap.size ≤ (w7.alloc o).heap.size) := fun o => by simp; omega
        have HB1 : Hid (k + 1 ≤ maxLen) := by show _ ≤ _; unfold maxLen; omega
        have HB2 : Hid ((k + 1) * 8 ≤ 140737488355328) := by show _ ≤ _; omega
        have HNX : Hid (∀ (o : Obj) (v' : Value) (w4 : World), (w7.alloc o).grownBy w4 u6.ownBlock → w4.ownsRow w1.heap.size 2 1 v' (k + 1) ((Z k).map (Value.int .i64) ++ [.int .i64 (N : Nat)]) → w1.Ext w4 ∧ GrowOf (Value.int .i64) w1.heap.size 2 w4 v' (Z (k + 1))) := fun o v' w4 hg ho => by
          refine ⟨GrowOf.pushExt hg7 hX7 hg, ?_⟩
          rw [HZK.out, HZE.out]
          exact GrowOf.push (by rw [HLK.out]; exact ho)
        clear hx7 hX7 hg7 hlo HX6 HG6 HCC
        go_wp2_with (at_builtin; refine wpList_append_own _ rfl _ _ 28 rfl w1.heap.size 2 ib (.int .i64 0) 1 8 Try.underlying28 hib hb0 hb1 hb2 rfl (by decide) _ _ _ rfl (hown.alloc _) ⟨w7.heap.size, 0, none⟩ 1 1 [.int .i64 (N : Nat)] rfl rfl (cell_one_new _ _ _) (by simp [Value.oneCell']) HB1.out HB2.out (HLE.out _) (fun v' w8 hown' hgrow _ => ?_); have HS9 := Lib.hid (HNX.out _ _ _ hgrow hown'); clear hgrow hown' hown)
        go_roundw
        case rel => exact ⟨k + 1, by omega, by go_num, HS9⟩
        case measure => simp [intOf]; omega
      · have hke : k = 5 := by omega
        subst hke
        obtain ⟨a9, c9, rfl, -⟩ := HS.out.2.form
        have HR : Hid (ZsRet2 w (Z 5) true (.returned (.tuple #[.slice a9 (Z 5).length c9, .bool true])) wo) := ⟨a9, c9, rfl, HX1.out.trans HS.out.1, OwnOf.mono (GrowOf.own 0 HS.out.2) HX1.out.size (Nat.le_refl _)⟩
        clear HS
        go_wp2
        go_ret2
        exact HR.out
end Go.Proofs.Ythfggdmbegofoaa
