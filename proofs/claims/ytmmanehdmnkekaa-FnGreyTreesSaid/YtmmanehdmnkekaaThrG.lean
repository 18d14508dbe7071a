/- Thresholds of grey pictures, on both sides. -/
import Derived.Test.YtmmanehdmnkekaaGreyK
import Derived.Test.YtmmanehdmnkekaaWith
namespace Go.Proofs.Ytmmanehdmnkekaa
open Go Go.RowKit
/-- Where numbers are at least a level. -/
def thrL (level : Int) (zs : List Int) : List Bool := zs.map fun n => decide (level ≤ n)
theorem thrL_succ (level : Int) (zs : List Int) (k : Nat) (h : k < zs.length) : thrL level (zs.take (k + 1)) = thrL level (zs.take k) ++ [decide (level ≤ zs.getD k 0)] := by
  unfold thrL
  rw [List.take_succ_eq_append_getElem h, List.map_append, List.getD_eq_getElem?_getD, List.getElem?_eq_getElem h]
  rfl
set_option maxRecDepth 5000 in
set_option maxHeartbeats 1600000 in
theorem l07Threshold_any (p : Nat) (a : Option Addr) (c : Nat) (A : Nat → Option Addr) (C : Nat → Nat) (m : List (List Int)) (level : Int) (w : World) (hok : tableOk m 99 = true)
    (hp : w.cell? ⟨p, 0, none⟩ = some (.slice a m.length c)) (hm : MatAt w a A C m) :
    Calls Try.prog 230 #[.pointer (some ⟨p, 0, none⟩), .int .i64 level] w fun e w' => ∃ a' c', e = .returned (.agg #[.slice a' m.length c']) ∧ w.Ext w' ∧ OwnOf Value.string ByteArray.empty w.heap.size w'.heap.size w' a' (picRows (m.getD 0 []).length m.length (thrL level m.flatten)) := by
  obtain ⟨ib, hib, hb0, hb1, hb2⟩ := info_parts Try.infoBool
  obtain ⟨h1, h2, h3, h4, h5, h6⟩ := tableOk_spec hok
  have hfl := flat_len _ m h5
  have hsum : m.flatten.length ≤ 256 := by rw [hfl]; exact Nat.mul_le_mul h4 h2
  have HFL := Lib.hid hfl
  have HROW : Hid (∀ r, r < m.length → 0 < (m.getD r []).length) := fun r hr => by rw [h5 r hr]; omega
  have HM := Lib.hid hm
  have HMN : Hid (m.length ≤ 1048576) := by show _ ≤ _; omega
  have HSUM : Hid (m.flatten.length ≤ 1048576) := by show _ ≤ _; omega
  have HW1 : Hid (1 ≤ (m.getD 0 []).length) := h3
  have HW2 : Hid ((m.getD 0 []).length ≤ 64) := by show _ ≤ _; omega
  have HH2 : Hid (m.length ≤ 64) := by show _ ≤ _; omega
  have HPOS : Hid (0 < m.length) := h1
  clear hm hok h3 h4 h5 h6 hfl
  have hplt : p < w.heap.size := World.block_lt_of_cell? w _ hp
  go_enter Try.func230, Try.ntmps230
  go_wp2_with fail
  refine (l07List_any _ _ A C m _ HMN.out HROW.out HSUM.out (HM.out.ext (by repeat (first | exact World.Ext.refl _ | exact ⟨_, rfl⟩ | assumption | refine World.Ext.over ?_ _ | refine World.Ext.drewN ?_ _ | refine World.Ext.drew ?_ | refine World.Ext.alloc ?_ _ | refine World.Ext.setCell ?_ (by simp) _)))).mono ?_
  rintro e w1 ⟨a1, c1, rfl, hx1, ho1, ht1⟩
  have hx0 : w.Ext ((w.alloc (.cells #[.slice none 0 0] 38)).alloc (.cells #[] 4)) := by repeat (first | exact World.Ext.refl _ | exact ⟨_, rfl⟩ | assumption | refine World.Ext.over ?_ _ | refine World.Ext.drewN ?_ _ | refine World.Ext.drew ?_ | refine World.Ext.alloc ?_ _ | refine World.Ext.setCell ?_ (by simp) _)
  have hres := (((One.new w (.slice none 0 0) 38 _ rfl).ext ((World.Ext.refl _).alloc (.cells #[] 4)))).ext hx1
  have hg := (GrowOf.empty (f := Value.bool) (lo := w.heap.size) (e := 4) (w.alloc (.cells #[.slice none 0 0] 38)) (by simp)).ext hx1
  simp only [World.size_alloc] at hg
  have hx := hx0.trans hx1
  have HRES := Lib.hid hres
  have HG := Lib.hid hg
  have HX := Lib.hid hx
  have HO := Lib.hid ho1.row
  have HT := Lib.hid ht1
  clear hres hg hx ho1 hx1 hx0 ht1
  generalize hzs : m.flatten = zs at *
  have HZS := Lib.hid hzs
  clear hzs
  go_wp2
  go_loopw [5, 16] (fun v i wr => ∃ k : Nat, k ≤ zs.length ∧ i = .int .i64 k ∧ Hid (w.Ext wr) ∧ Hid (One wr w.heap.size 38 (.slice none 0 0)) ∧ Hid (GrowOf Value.bool w.heap.size 4 wr v (thrL level (zs.take k))) ∧ Hid (RowI wr a1 zs ∧ Tag wr a1 2)) (fun _ i _ => zs.length - (intOf i).toNat)
  case atStart => exact ⟨0, Nat.zero_le _, rfl, HX, HRES, HG, HO.out, HT.out⟩
  case round =>
    obtain ⟨k, hk, rfl, HX, HRES, HG, HO⟩ := hrel
    by_cases hlt : k < zs.length
    · obtain ⟨b, o, rfl, hc⟩ := HO.out.1 k hlt
      have hlen : (thrL level (zs.take k)).length = k := by simp [thrL]; omega
      have hown := HG.out
      unfold GrowOf at hown
      rw [hlen] at hown
      have hsucc := thrL_succ level zs k hlt
      have hnext : ∀ (o' : Obj) (v' : Value) (w1 : World), (wr.alloc o').grownBy w1 u5.ownBlock → w1.ownsRow w.heap.size 4 1 v' (k + 1) ((thrL level (zs.take k)).map Value.bool ++ [Value.bool (decide (level ≤ zs.getD k 0))]) →
          Hid (w.Ext w1) ∧ Hid (One w1 w.heap.size 38 (.slice none 0 0)) ∧ Hid (GrowOf Value.bool w.heap.size 4 w1 v' (thrL level (zs.take (k + 1)))) ∧ Hid (RowI w1 (some ⟨b, o, none⟩) zs ∧ Tag w1 (some ⟨b, o, none⟩) 2) := fun o' v' w1 hgrow hown' => by
        refine ⟨HG.out.pushExt HX.out hgrow, (HRES.out.ext ((World.Ext.refl _).alloc o')).grown hgrow (HG.out.ne HRES.out (by decide)), ?_, ?_⟩
        · show GrowOf _ _ _ _ _ _
          rw [hsucc]
          exact GrowOf.push (by rw [hlen]; exact hown')
        · have hn := fun {b' o2 : Nat} {s : Option Nat} (e : some (⟨b, o, none⟩ : Addr) = some ⟨b', o2, s⟩) => HO.out.2.ne HG.out (by decide) e
          exact ⟨(RowOf.ext HO.out.1 ((World.Ext.refl _).alloc o')).grown hgrow (fun _ _ e => hn e), (HO.out.2.ext ((World.Ext.refl _).alloc o')).grown hgrow (fun _ _ _ e => hn e)⟩
      have HNEXT := Lib.hid hnext
      have HLE : ∀ o' : Obj, w.heap.size ≤ (wr.alloc o').heap.size := fun o' => (HX.out.alloc o').size
      have HB1 : Hid (k + 1 ≤ maxLen) := by show _ ≤ _; unfold maxLen; omega
      have HB2 : Hid ((k + 1) * 1 ≤ 140737488355328) := by show _ ≤ _; omega
      have hlt' : (k : Int) < (zs.length : Int) := by omega
      have hk0 : (0 : Int) ≤ (k : Int) := by omega
      clear hnext hlen hsucc
      generalize zs.getD k 0 = z at hc HNEXT
      go_wp2_with ((at_builtin; refine wpList_append_own _ rfl _ _ 124 rfl w.heap.size 4 ib (.bool false) 1 1 Try.underlying124 hib hb0 hb1 hb2 rfl (by decide) _ _ _ rfl (hown.alloc _) ⟨wr.heap.size, 0, none⟩ 1 1 [.bool (decide (level ≤ z))] rfl rfl (cell_one_new _ _ _) (by simp [Value.oneCell']) HB1.out HB2.out (HLE _) (fun v' w1 hown' hgrow _ => ?_)); obtain ⟨HX1, HR1, HG1, HO1⟩ := HNEXT.out _ _ _ hgrow hown'; clear hgrow hown' hown hc)
      go_roundw
      case rel => exact ⟨k + 1, by omega, by go_num, HX1, HR1, HG1, HO1⟩
      case measure => simp [intOf]; omega
    · have : k = zs.length := by omega
      subst this
      have hg1 := HG.out
      rw [List.take_length] at hg1
      obtain ⟨a2, c2, rfl, _⟩ := hg1.form
      have hb2 := (hg1.own false).row
      have hlen : (thrL level zs).length = (m.getD 0 []).length * m.length := by unfold thrL; rw [List.length_map, HFL.out]
      have hp1 := HX.out.cell hp
      have HLEN := Lib.hid hlen
      have HB2 := Lib.hid hb2
      clear hg1 hb2 hlen
      go_wp2_with fail
      refine (l07Width_any _ _ _ A C m _ HPOS.out hp1 (HM.out.ext HX.out)).mono ?_
      rintro e w2 ⟨rfl, hx2⟩
      go_wp2_with fail
      refine (l01Make_any _ _ _ m.length (thrL level zs) _ HW1.out HW2.out HH2.out HLEN.out (RowOf.ext HB2.out hx2)).mono ?_
      rintro e w3 ⟨a3, c3, rfl, hx3, ho3⟩
      have hres := (HRES.out.ext hx2).ext hx3
      have hc4 := hres.cell
      have hf4 := hres.free
      have hsz : w.heap.size < w2.heap.size := by have h1 := HRES.out.lt; have h2 := hx2.size; omega
      have hx4 := (((HX.out.trans hx2).trans hx3).setCell (p := ⟨w.heap.size, 0, none⟩) (Nat.le_refl _) (.slice a3 m.length c3))
      have ho4 := (ho3.wrote (S := fun b => b = w.heap.size) (Wrote.setCell (S := fun b => b = w.heap.size) (Wrote.refl _ w3) (p := ⟨w.heap.size, 0, none⟩) rfl (.slice a3 m.length c3)) (fun k h1 h2 => by omega)).mono (lo' := w.heap.size) (hi' := (w3.setCell ⟨w.heap.size, 0, none⟩ (.slice a3 m.length c3)).heap.size) (by omega) (by simp)
      have hr4 := (hres.set (.slice a3 m.length c3)).cell
      have HX4 := Lib.hid hx4
      have HO4 := Lib.hid ho4
      clear hx4 ho4 hx3 hx2 ho3 hres
      go_wp2
      exact bodyPost_ret (v := .agg #[.slice a3 m.length c3]) (by simp [results, Try.results230, go_sem, hr4]) rfl ⟨a3, c3, rfl, HX4.out, by rw [HZS.out]; exact HO4.out⟩
theorem ThrRet.no {w w' : World} (hx : w.Ext w') : PicRet2 w [] false (.returned (.tuple #[.agg #[.slice none 0 0], .bool false])) w' := ⟨none, 0, rfl, hx, OwnOf.nil _ _⟩
theorem ThrRet.yes {w w' : World} {rows : List ByteArray} {a : Option Addr} {n c : Nat} (hn : n = rows.length) (hx : w.Ext w') (ho : OwnOf Value.string ByteArray.empty w.heap.size w'.heap.size w' a rows) :
    PicRet2 w rows true (.returned (.tuple #[.agg #[.slice a n c], .bool true])) w' := ⟨a, c, by rw [hn], hx, ho⟩
/-- What ThresholdGrey returns: the rows' texts. -/
def thrRows (m : List (List Int)) (level : Int) : List ByteArray := picRows (m.getD 0 []).length m.length (thrL level m.flatten)
def thrOk (m : List (List Int)) (level : Int) : Bool := tableOk m 99 && inB level 0 100
/-- The pixels that a threshold tells. -/
def thrgG (m : List (List Int)) (level : Int) (x y : Nat) : Bool := decide (level ≤ (m.getD y []).getD x 0)
theorem mkl_thr (W : Nat) (m : List (List Int)) (level : Int) (hW : 0 < W) (h : ∀ r, r < m.length → (m.getD r []).length = W) : mkl W m.length (thrgG m level) = thrL level m.flatten := by
  have hl := flat_len W m h
  apply List.ext_getElem?
  intro k
  by_cases hk : k < m.length * W
  · have hy : k / W < m.length := Nat.div_lt_of_lt_mul (by rw [Nat.mul_comm]; exact hk)
    have hx : k % W < W := Nat.mod_lt _ hW
    have e : k / W * W + k % W = k := by rw [Nat.mul_comm]; exact Nat.div_add_mod k W
    have h1 := flat_at W m (k / W) (k % W) h hy hx
    rw [e] at h1
    have hk2 : k < m.flatten.length := by rw [hl, Nat.mul_comm]; exact hk
    rw [List.getD_eq_getElem?_getD, List.getElem?_eq_getElem hk2, Option.getD_some] at h1
    unfold mkl thrL
    rw [List.getElem?_map, List.getElem?_range hk, Option.map_some, List.getElem?_map, List.getElem?_eq_getElem hk2, Option.map_some, h1]
    rfl
  · have h1 : (mkl W m.length (thrgG m level)).length ≤ k := by rw [mkl_len]; omega
    have h2 : (thrL level m.flatten).length ≤ k := by unfold thrL; rw [List.length_map, hl, Nat.mul_comm]; omega
    rw [List.getElem?_eq_none h1, List.getElem?_eq_none h2]
set_option maxHeartbeats 400000 in
theorem threshold1_any (p2 p3 p : Nat) (a : Option Addr) (c : Nat) (A : Nat → Option Addr) (C : Nat → Nat) (m : List (List Int)) (level : Int) (x y : Nat) (w : World) (hy : y < m.length) (hx : x < (m.getD y []).length)
    (h2 : w.cell? ⟨p2, 0, none⟩ = some (.pointer (some ⟨p, 0, none⟩))) (h3 : w.cell? ⟨p3, 0, none⟩ = some (.int .i64 level)) (hp : w.cell? ⟨p, 0, none⟩ = some (.slice a m.length c)) (hm : MatAt w a A C m) :
    Calls Try.prog 186 #[.int .i64 x, .int .i64 y, .pointer (some ⟨p2, 0, none⟩), .pointer (some ⟨p3, 0, none⟩)] w fun e w' => e = .returned (.bool (thrgG m level x y)) ∧ w.Ext w' := by
  obtain ⟨⟨b0, o0, rfl, hc0⟩, hr⟩ := hm y hy
  have hv : thrgG m level x y = decide (level ≤ (m.getD y []).getD x 0) := rfl
  rw [hv]
  clear hm hv
  generalize m.getD y [] = q at *
  obtain ⟨b1, o1, hA, hc1⟩ := hr x hx
  rw [hA] at hc0
  generalize q.getD x 0 = z at *
  have hy' : (y : Int) < (m.length : Int) := by omega
  have hx' : (x : Int) < (q.length : Int) := by omega
  have hx0 : (0 : Int) ≤ (x : Int) := by omega
  have hy0 : (0 : Int) ≤ (y : Int) := by omega
  clear hr hA
  go_enter Try.func186, Try.ntmps186
  go_wp2_with fail
  refine wp_region_over_lit (by kernel_rfl) (by kernel_rfl) ?_; (repeat (go_big_quiet_step (fail))); refine wpQuiet_nil ?_; rintro _ ⟨x1, rfl⟩
  go_wp2
  go_ret
  refine ⟨rfl, ?_⟩
  repeat (first | exact World.Ext.refl _ | exact ⟨_, rfl⟩ | assumption | refine World.Ext.over ?_ _ | refine World.Ext.drewN ?_ _ | refine World.Ext.drew ?_ | refine World.Ext.alloc ?_ _ | refine World.Ext.setCell ?_ (by simp) _)
theorem enters_threshold1 : Enters 186 := enters_of Try.func186 (by kernel_rfl) (by kernel_rfl)
set_option maxRecDepth 5000 in
set_option maxHeartbeats 800000 in
theorem threshold_any (p : Nat) (a : Option Addr) (c : Nat) (A : Nat → Option Addr) (C : Nat → Nat) (m : List (List Int)) (level : Int) (w : World) (hok : tableOk m 99 = true)
    (hp : w.cell? ⟨p, 0, none⟩ = some (.slice a m.length c)) (hm : MatAt w a A C m) :
    Calls Try.prog 85 #[.pointer (some ⟨p, 0, none⟩), .int .i64 level] w (ImgRet w (m.getD 0 []).length m.length (thrL level m.flatten)) := by
  obtain ⟨h1, h2, h3, h4, h5, _⟩ := tableOk_spec hok
  rw [← mkl_thr _ m level h3 h5]
  have HM := Lib.hid hm
  have HL := Lib.hid h5
  have HPOS := Lib.hid h1
  have HW : Hid ((m.getD 0 []).length ≤ 64) := by show _ ≤ _; omega
  have HH : Hid (m.length ≤ 64) := by show _ ≤ _; omega
  have hplt : p < w.heap.size := World.block_lt_of_cell? w _ hp
  clear hm h1 h2 h3 h4 h5 hok
  go_enter Try.func85, Try.ntmps85
  go_wp2_with fail
  refine (sizes_any p a c A C m _ HPOS.out (World.Ext.cell (by repeat (first | exact World.Ext.refl _ | exact ⟨_, rfl⟩ | assumption | refine World.Ext.over ?_ _ | refine World.Ext.drewN ?_ _ | refine World.Ext.drew ?_ | refine World.Ext.alloc ?_ _ | refine World.Ext.setCell ?_ (by simp) _)) hp) (HM.out.ext (by repeat (first | exact World.Ext.refl _ | exact ⟨_, rfl⟩ | assumption | refine World.Ext.over ?_ _ | refine World.Ext.drewN ?_ _ | refine World.Ext.drew ?_ | refine World.Ext.alloc ?_ _ | refine World.Ext.setCell ?_ (by simp) _)))).mono ?_
  rintro e w' ⟨rfl, x1, rfl⟩
  have q2 : World.cell? (((w.alloc (.cells #[.pointer (some ⟨p, 0, none⟩)] 210)).alloc (.cells #[.int .i64 level] 2)).over x1) ⟨w.heap.size, 0, none⟩ = some (.pointer (some ⟨p, 0, none⟩)) := by simp [go_sem]
  have q3 : World.cell? (((w.alloc (.cells #[.pointer (some ⟨p, 0, none⟩)] 210)).alloc (.cells #[.int .i64 level] 2)).over x1) ⟨w.heap.size + 1, 0, none⟩ = some (.int .i64 level) := by simp [go_sem]
  have hx : w.Ext (((w.alloc (.cells #[.pointer (some ⟨p, 0, none⟩)] 210)).alloc (.cells #[.int .i64 level] 2)).over x1) := by repeat (first | exact World.Ext.refl _ | exact ⟨_, rfl⟩ | assumption | refine World.Ext.over ?_ _ | refine World.Ext.drewN ?_ _ | refine World.Ext.drew ?_ | refine World.Ext.alloc ?_ _ | refine World.Ext.setCell ?_ (by simp) _)
  have hcall := made_any (m.getD 0 []).length m.length 186 #[.pointer (some ⟨w.heap.size, 0, none⟩), .pointer (some ⟨w.heap.size + 1, 0, none⟩)] (thrgG m level) _ HW.out HH.out enters_threshold1
    (fun w' hx' x y hxx hyy => threshold1_any w.heap.size (w.heap.size + 1) p a c A C m level x y w' hyy (by rw [HL.out y hyy]; exact hxx) (hx'.cell q2) (hx'.cell q3) ((hx.trans hx').cell hp) ((HM.out.ext hx).ext hx'))
  have HC := Lib.hid hcall
  have HX := Lib.hid hx
  clear hcall q2 q3 hx
  generalize (m.getD 0 []).length = W at *
  go_wp2_with fail
  refine HC.out.mono ?_
  rintro e w2 ⟨b, ab, rfl, hx2, hI, hb, hab⟩
  have HX2 := Lib.hid (HX.out.trans hx2)
  have HIM := Lib.hid hI
  have HB := Lib.hid (Nat.le_trans HX.out.size hb)
  have HAB := Lib.hid (Nat.le_trans HX.out.size hab)
  clear hx2 hI hb hab HC
  go_wp2
  go_ret
  exact ⟨b, ab, rfl, HX2.out, HIM.out, HB.out, HAB.out⟩
set_option maxRecDepth 5000 in
set_option maxHeartbeats 800000 in
theorem implThresholdGrey_any (a : Option Addr) (c : Nat) (A : Nat → Option Addr) (C : Nat → Nat) (m : List (List Int)) (level : Int) (w : World) (hn : m.length ≤ 1048576) (hrow : ∀ r, (m.getD r []).length ≤ 1048576) (hm : MatAt w a A C m) :
    Calls Try.prog 18 #[.agg #[.slice a m.length c], .int .i64 level] w (PicRet2 w (if thrOk m level then thrRows m level else []) (thrOk m level)) := by
  have HM := Lib.hid hm
  have HR := Lib.hid hrow
  have HN := Lib.hid hn
  clear hm hrow hn
  cases hok : tableOk m 99
  · have hv : thrOk m level = false := by simp [thrOk, hok]
    rw [hv]
    have HOK := Lib.hid hok
    clear hv hok
    go_enter Try.func18, Try.ntmps18
    go_wp2_with (go_at_call 75; refine (validGrey_any a c A C m _ HN.out HR.out (HM.out.ext (by repeat (first | exact World.Ext.refl _ | exact ⟨_, rfl⟩ | assumption | refine World.Ext.over ?_ _ | refine World.Ext.drewN ?_ _ | refine World.Ext.drew ?_ | refine World.Ext.alloc ?_ _ | refine World.Ext.setCell ?_ (by simp) _))) _ HOK.out).mono ?_; rintro e w' ⟨rfl, x1, rfl⟩)
    refine bodyPost_ret (v := .tuple #[.agg #[.slice none 0 0], .bool false]) (by simp [results, Try.results18, go_sem]) rfl (ThrRet.no ?_)
    repeat (first | exact World.Ext.refl _ | exact ⟨_, rfl⟩ | assumption | refine World.Ext.over ?_ _ | refine World.Ext.drewN ?_ _ | refine World.Ext.drew ?_ | refine World.Ext.alloc ?_ _ | refine World.Ext.setCell ?_ (by simp) _)
  · have HOK := Lib.hid hok
    cases hl : inB level 0 100
    · have hv : thrOk m level = false := by simp [thrOk, hl]
      rw [hv]
      have HL := Lib.hid hl
      clear hv hok hl
      go_enter Try.func18, Try.ntmps18
      go_wp2_with (first | (go_at_call 75; refine (validGrey_any a c A C m _ HN.out HR.out (HM.out.ext (by repeat (first | exact World.Ext.refl _ | exact ⟨_, rfl⟩ | assumption | refine World.Ext.over ?_ _ | refine World.Ext.drewN ?_ _ | refine World.Ext.drew ?_ | refine World.Ext.alloc ?_ _ | refine World.Ext.setCell ?_ (by simp) _))) _ HOK.out).mono ?_; rintro e w' ⟨rfl, x1, rfl⟩) | (go_at_call 84; refine (in_any _ _ _ _ _ HL.out).mono ?_; rintro e w' ⟨rfl, x1, rfl⟩))
      refine bodyPost_ret (v := .tuple #[.agg #[.slice none 0 0], .bool false]) (by simp [results, Try.results18, go_sem]) rfl (ThrRet.no ?_)
      repeat (first | exact World.Ext.refl _ | exact ⟨_, rfl⟩ | assumption | refine World.Ext.over ?_ _ | refine World.Ext.drewN ?_ _ | refine World.Ext.drew ?_ | refine World.Ext.alloc ?_ _ | refine World.Ext.setCell ?_ (by simp) _)
    · have hv : thrOk m level = true := by simp [thrOk, hok, hl]
      rw [hv]
      have HL := Lib.hid hl
      obtain ⟨q1, q2, q3, q4, _, _⟩ := tableOk_spec hok
      have HW1 : Hid (1 ≤ (m.getD 0 []).length) := q3
      have HW2 : Hid ((m.getD 0 []).length ≤ 64) := by show _ ≤ _; omega
      have HH2 : Hid (m.length ≤ 64) := by show _ ≤ _; omega
      have hlen : (thrRows m level).length = m.length := by unfold thrRows; exact picRows_len _ _ _
      have HLEN := Lib.hid hlen
      clear hv hok hl q1 q2 q3 q4 hlen
      go_enter Try.func18, Try.ntmps18
      go_wp2_with fail
      refine (validGrey_any a c A C m _ HN.out HR.out (HM.out.ext (by repeat (first | exact World.Ext.refl _ | exact ⟨_, rfl⟩ | assumption | refine World.Ext.over ?_ _ | refine World.Ext.drewN ?_ _ | refine World.Ext.drew ?_ | refine World.Ext.alloc ?_ _ | refine World.Ext.setCell ?_ (by simp) _))) _ HOK.out).mono ?_
      rintro e w' ⟨rfl, x1, rfl⟩
      go_wp2_with fail
      refine (in_any _ _ _ _ _ HL.out).mono ?_
      rintro e w' ⟨rfl, x2, rfl⟩
      go_wp2_with fail
      refine (threshold_any w.heap.size a c A C m level _ HOK.out (by simp [go_sem]) (HM.out.ext (by repeat (first | exact World.Ext.refl _ | exact ⟨_, rfl⟩ | assumption | refine World.Ext.over ?_ _ | refine World.Ext.drewN ?_ _ | refine World.Ext.drew ?_ | refine World.Ext.alloc ?_ _ | refine World.Ext.setCell ?_ (by simp) _)))).mono ?_
      rintro e w3 ⟨b, ab, rfl, hx3, hI, _, _⟩
      have hx0 : w.Ext ((((w.alloc (.cells #[.slice a m.length c] 26)).alloc (.cells #[.slice none 0 0] 38)).over x1).over x2) := by repeat (first | exact World.Ext.refl _ | exact ⟨_, rfl⟩ | assumption | refine World.Ext.over ?_ _ | refine World.Ext.drewN ?_ _ | refine World.Ext.drew ?_ | refine World.Ext.alloc ?_ _ | refine World.Ext.setCell ?_ (by simp) _)
      have hres := (((One.new (w.alloc (.cells #[.slice a m.length c] 26)) (.slice none 0 0) 38 (w.heap.size + 1) (by simp)).ext ⟨x1, rfl⟩).ext ⟨x2, rfl⟩).ext hx3
      have hx30 := hx0.trans hx3
      have HX3 := Lib.hid hx30
      have HRES := Lib.hid hres
      have HIM := Lib.hid hI
      clear hx3 hI hx30 hx0
      have hlt : w.heap.size + 1 < w3.heap.size := hres.lt
      go_wp2_with fail
      refine (told_any b ab (m.getD 0 []).length m.length (thrL level m.flatten) _ HW1.out HW2.out HH2.out HIM.out).mono ?_
      rintro e w4 ⟨a4, c4, rfl, hx4, ho4⟩
      rw [picRows_len]
      have hr4 := HRES.out.ext hx4
      have hc4 := hr4.cell
      have hf4 := hr4.free
      have hx5 := (HX3.out.trans hx4).setCell (p := ⟨w.heap.size + 1, 0, none⟩) (by simp) (.slice a4 m.length c4)
      have ho5 := (ho4.wrote (S := fun b => b = w.heap.size + 1) (Wrote.setCell (S := fun b => b = w.heap.size + 1) (Wrote.refl _ w4) (p := ⟨w.heap.size + 1, 0, none⟩) rfl (.slice a4 m.length c4)) (fun k h1 h2 => by omega)).mono (lo' := w.heap.size) (hi' := (w4.setCell ⟨w.heap.size + 1, 0, none⟩ (.slice a4 m.length c4)).heap.size) (HX3.out.size) (by simp)
      have hr5 := (hr4.set (.slice a4 m.length c4)).cell
      have HX5 := Lib.hid hx5
      have HO5 := Lib.hid ho5
      clear hx5 ho5 hx4 ho4 hres hlt hr4
      go_wp2
      exact bodyPost_ret (v := .tuple #[.agg #[.slice a4 m.length c4], .bool true]) (by simp [results, Try.results18, go_sem, hr5]) rfl (ThrRet.yes (picRows_len _ _ _).symm HX5.out HO5.out)
end Go.Proofs.Ytmmanehdmnkekaa
