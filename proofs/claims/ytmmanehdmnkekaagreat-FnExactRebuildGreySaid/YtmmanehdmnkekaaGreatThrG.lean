/- Thresholds of grey pictures, on both sides. -/
import Derived.Test.YtmmanehdmnkekaaGreatGreyK
import Derived.Test.YtmmanehdmnkekaaGreatWith
namespace Go.Proofs.YtmmanehdmnkekaaGreat
open Go Go.RowKit
/-- Where numbers are at least a level. -/
def thrL (level : Int) (zs : List Int) : List Bool := zs.map fun n => decide (level ≤ n)
theorem thrL_succ (level : Int) (zs : List Int) (k : Nat) (h : k < zs.length) : thrL level (zs.take (k + 1)) = thrL level (zs.take k) ++ [decide (level ≤ zs.getD k 0)] := by
  unfold thrL
  rw [List.take_succ_eq_append_getElem h, List.map_append, List.getD_eq_getElem?_getD, List.getElem?_eq_getElem h]
  rfl
set_option maxRecDepth 5000 in
set_option maxHeartbeats 1600000 in
theorem l07Threshold_any (p : Nat) (a : Option Addr) (c : Nat) (A : Nat → Option Addr) (C : Nat → Nat) (m : List (List Int)) (level : Int) (w : World) (hok : tableOk m 99 = true)
    (hp : w.cell? ⟨p, 0, none⟩ = some (.slice a m.length c)) (hm : MatAt w a A C m) :
    Calls Tryz.prog 55 #[.pointer (some ⟨p, 0, none⟩), .int .i64 level] w fun e w' => ∃ a' c', e = .returned (.agg #[.slice a' m.length c']) ∧ w.Ext w' ∧ OwnOf Value.string ByteArray.empty w.heap.size w'.heap.size w' a' (picRows (m.getD 0 []).length m.length (thrL level m.flatten)) := by
  obtain ⟨ib, hib, hb0, hb1, hb2⟩ := info_parts Tryz.infoBool
  obtain ⟨h1, h2, h3, h4, h5, h6⟩ := tableOk_spec hok
  have hfl := flat_len _ m h5
  have hsum : m.flatten.length ≤ 256 := by rw [hfl]; exact Nat.mul_le_mul h4 h2
  have HFL := Lib.hid hfl
  have HROW : Hid (∀ r, r < m.length → 0 < (m.getD r []).length) := fun r hr => by rw [h5 r hr]; omega
  have HM := Lib.hid hm
  have HMN : Hid (m.length ≤ 1048576) := by show _ ≤ _; omega
  have HSUM : Hid (m.flatten.length ≤ 1048576) := by show _ ≤ _; omega
  have HW1 : Hid (1 ≤ (m.getD 0 []).length) := h3
  have HW2 : Hid ((m.getD 0 []).length ≤ 64) := by show _ ≤ _; omega
  have HH2 : Hid (m.length ≤ 64) := by show _ ≤ _; omega
  have HPOS : Hid (0 < m.length) := h1
  clear hm hok h3 h4 h5 h6 hfl
  have hplt : p < w.heap.size := World.block_lt_of_cell? w _ hp
  go_enter Tryz.func55, Tryz.ntmps55
  go_wp2_with fail
  refine (l07List_any _ _ A C m _ HMN.out HROW.out HSUM.out (HM.out.ext (by repeat (first | exact World.Ext.refl _ | exact ⟨_, rfl⟩ | assumption | refine World.Ext.over ?_ _ | refine World.Ext.drewN ?_ _ | refine World.Ext.drew ?_ | refine World.Ext.alloc ?_ _ | refine World.Ext.setCell ?_ (by simp) _)))).mono ?_
  rintro e w1 ⟨a1, c1, rfl, hx1, ho1, ht1⟩
  have hx0 : w.Ext ((w.alloc (.cells #[.slice none 0 0] 28)).alloc (.cells #[] 4)) := by repeat (first | exact World.Ext.refl _ | exact ⟨_, rfl⟩ | assumption | refine World.Ext.over ?_ _ | refine World.Ext.drewN ?_ _ | refine World.Ext.drew ?_ | refine World.Ext.alloc ?_ _ | refine World.Ext.setCell ?_ (by simp) _)
  have hres := (((One.new w (.slice none 0 0) 28 _ rfl).ext ((World.Ext.refl _).alloc (.cells #[] 4)))).ext hx1
  have hg := (GrowOf.empty (f := Value.bool) (lo := w.heap.size) (e := 4) (w.alloc (.cells #[.slice none 0 0] 28)) (by simp)).ext hx1
  simp only [World.size_alloc] at hg
  have hx := hx0.trans hx1
  have HRES := Lib.hid hres
  have HG := Lib.hid hg
  have HX := Lib.hid hx
  have HO := Lib.hid ho1.row
  have HT := Lib.hid ht1
  clear hres hg hx ho1 hx1 hx0 ht1
  generalize hzs : m.flatten = zs at *
  have HZS := Lib.hid hzs
  clear hzs
  go_wp2
  go_loopw [5, 16] (fun v i wr => ∃ k : Nat, k ≤ zs.length ∧ i = .int .i64 k ∧ Hid (w.Ext wr) ∧ Hid (One wr w.heap.size 28 (.slice none 0 0)) ∧ Hid (GrowOf Value.bool w.heap.size 4 wr v (thrL level (zs.take k))) ∧ Hid (RowI wr a1 zs ∧ Tag wr a1 2)) (fun _ i _ => zs.length - (intOf i).toNat)
  case atStart => exact ⟨0, Nat.zero_le _, rfl, HX, HRES, HG, HO.out, HT.out⟩
  case round =>
    obtain ⟨k, hk, rfl, HX, HRES, HG, HO⟩ := hrel
    by_cases hlt : k < zs.length
    · obtain ⟨b, o, rfl, hc⟩ := HO.out.1 k hlt
      have hlen : (thrL level (zs.take k)).length = k := by simp [thrL]; omega
      have hown := HG.out
      unfold GrowOf at hown
      rw [hlen] at hown
      have hsucc := thrL_succ level zs k hlt
      have hnext : ∀ (o' : Obj) (v' : Value) (w1 : World), (wr.alloc o').grownBy w1 u5.ownBlock → w1.ownsRow w.heap.size 4 1 v' (k + 1) ((thrL level (zs.take k)).map Value.bool ++ [Value.bool (decide (level ≤ zs.getD k 0))]) →
          Hid (w.Ext w1) ∧ Hid (One w1 w.heap.size 28 (.slice none 0 0)) ∧ Hid (GrowOf Value.bool w.heap.size 4 w1 v' (thrL level (zs.take (k + 1)))) ∧ Hid (RowI w1 (some ⟨b, o, none⟩) zs ∧ Tag w1 (some ⟨b, o, none⟩) 2) := fun o' v' w1 hgrow hown' => by
        refine ⟨HG.out.pushExt HX.out hgrow, (HRES.out.ext ((World.Ext.refl _).alloc o')).grown hgrow (HG.out.ne HRES.out (by decide)), ?_, ?_⟩
        · show GrowOf _ _ _ _ _ _
          rw [hsucc]
          exact GrowOf.push (by rw [hlen]; exact hown')
        · have hn := fun {b' o2 : Nat} {s : Option Nat} (e : some (⟨b, o, none⟩ : Addr) = some ⟨b', o2, s⟩) => HO.out.2.ne HG.out (by decide) e
          exact ⟨(RowOf.ext HO.out.1 ((World.Ext.refl _).alloc o')).grown hgrow (fun _ _ e => hn e), (HO.out.2.ext ((World.Ext.refl _).alloc o')).grown hgrow (fun _ _ _ e => hn e)⟩
      have HNEXT := Lib.hid hnext
      have HLE : ∀ o' : Obj, w.heap.size ≤ (wr.alloc o').heap.size := fun o' => (HX.out.alloc o').size
      have HB1 : Hid (k + 1 ≤ maxLen) := by show _ ≤ _; unfold maxLen; omega
      have HB2 : Hid ((k + 1) * 1 ≤ 140737488355328) := by show _ ≤ _; omega
      have hlt' : (k : Int) < (zs.length : Int) := by omega
      have hk0 : (0 : Int) ≤ (k : Int) := by omega
      clear hnext hlen hsucc
      generalize zs.getD k 0 = z at hc HNEXT
      go_wp2_with ((at_builtin; refine wpList_append_own _ rfl _ _ 54 rfl w.heap.size 4 ib (.bool false) 1 1 Tryz.underlying54 hib hb0 hb1 hb2 rfl (by decide) _ _ _ rfl (hown.alloc _) ⟨wr.heap.size, 0, none⟩ 1 1 [.bool (decide (level ≤ z))] rfl rfl (cell_one_new _ _ _) (by simp [Value.oneCell']) HB1.out HB2.out (HLE _) (fun v' w1 hown' hgrow _ => ?_)); obtain ⟨HX1, HR1, HG1, HO1⟩ := HNEXT.out _ _ _ hgrow hown'; clear hgrow hown' hown hc)
      go_roundw
      case rel => exact ⟨k + 1, by omega, by go_num, HX1, HR1, HG1, HO1⟩
      case measure => simp [intOf]; omega
    · have : k = zs.length := by omega
      subst this
      have hg1 := HG.out
      rw [List.take_length] at hg1
      obtain ⟨a2, c2, rfl, _⟩ := hg1.form
      have hb2 := (hg1.own false).row
      have hlen : (thrL level zs).length = (m.getD 0 []).length * m.length := by unfold thrL; rw [List.length_map, HFL.out]
      have hp1 := HX.out.cell hp
      have HLEN := Lib.hid hlen
      have HB2 := Lib.hid hb2
      clear hg1 hb2 hlen
      go_wp2_with fail
      refine (l07Width_any _ _ _ A C m _ HPOS.out hp1 (HM.out.ext HX.out)).mono ?_
      rintro e w2 ⟨rfl, hx2⟩
      go_wp2_with fail
      refine (l01Make_any _ _ _ m.length (thrL level zs) _ HW1.out HW2.out HH2.out HLEN.out (RowOf.ext HB2.out hx2)).mono ?_
      rintro e w3 ⟨a3, c3, rfl, hx3, ho3⟩
      have hres := (HRES.out.ext hx2).ext hx3
      have hc4 := hres.cell
      have hf4 := hres.free
      have hsz : w.heap.size < w2.heap.size := by have h1 := HRES.out.lt; have h2 := hx2.size; omega
      have hx4 := (((HX.out.trans hx2).trans hx3).setCell (p := ⟨w.heap.size, 0, none⟩) (Nat.le_refl _) (.slice a3 m.length c3))
      have ho4 := (ho3.wrote (S := fun b => b = w.heap.size) (Wrote.setCell (S := fun b => b = w.heap.size) (Wrote.refl _ w3) (p := ⟨w.heap.size, 0, none⟩) rfl (.slice a3 m.length c3)) (fun k h1 h2 => by omega)).mono (lo' := w.heap.size) (hi' := (w3.setCell ⟨w.heap.size, 0, none⟩ (.slice a3 m.length c3)).heap.size) (by omega) (by simp)
      have hr4 := (hres.set (.slice a3 m.length c3)).cell
      have HX4 := Lib.hid hx4
      have HO4 := Lib.hid ho4
      clear hx4 ho4 hx3 hx2 ho3 hres
      go_wp2
      exact bodyPost_ret (v := .agg #[.slice a3 m.length c3]) (by simp [results, Tryz.results55, go_sem, hr4]) rfl ⟨a3, c3, rfl, HX4.out, by rw [HZS.out]; exact HO4.out⟩
theorem ThrRet.no {w w' : World} (hx : w.Ext w') : PicRet2 w [] false (.returned (.tuple #[.agg #[.slice none 0 0], .bool false])) w' := ⟨none, 0, rfl, hx, OwnOf.nil _ _⟩
theorem ThrRet.yes {w w' : World} {rows : List ByteArray} {a : Option Addr} {n c : Nat} (hn : n = rows.length) (hx : w.Ext w') (ho : OwnOf Value.string ByteArray.empty w.heap.size w'.heap.size w' a rows) :
    PicRet2 w rows true (.returned (.tuple #[.agg #[.slice a n c], .bool true])) w' := ⟨a, c, by rw [hn], hx, ho⟩
/-- What ThresholdGrey returns: the rows' texts. -/
def thrRows (m : List (List Int)) (level : Int) : List ByteArray := picRows (m.getD 0 []).length m.length (thrL level m.flatten)
def thrOk (m : List (List Int)) (level : Int) : Bool := tableOk m 99 && inB level 0 100
/-- The pixels that a threshold tells. -/
def thrgG (m : List (List Int)) (level : Int) (x y : Nat) : Bool := decide (level ≤ (m.getD y []).getD x 0)
theorem mkl_thr (W : Nat) (m : List (List Int)) (level : Int) (hW : 0 < W) (h : ∀ r, r < m.length → (m.getD r []).length = W) : mkl W m.length (thrgG m level) = thrL level m.flatten := by
  have hl := flat_len W m h
  apply List.ext_getElem?
  intro k
  by_cases hk : k < m.length * W
  · have hy : k / W < m.length := Nat.div_lt_of_lt_mul (by rw [Nat.mul_comm]; exact hk)
    have hx : k % W < W := Nat.mod_lt _ hW
    have e : k / W * W + k % W = k := by rw [Nat.mul_comm]; exact Nat.div_add_mod k W
    have h1 := flat_at W m (k / W) (k % W) h hy hx
    rw [e] at h1
    have hk2 : k < m.flatten.length := by rw [hl, Nat.mul_comm]; exact hk
    rw [List.getD_eq_getElem?_getD, List.getElem?_eq_getElem hk2, Option.getD_some] at h1
    unfold mkl thrL
    rw [List.getElem?_map, List.getElem?_range hk, Option.map_some, List.getElem?_map, List.getElem?_eq_getElem hk2, Option.map_some, h1]
    rfl
  · have h1 : (mkl W m.length (thrgG m level)).length ≤ k := by rw [mkl_len]; omega
    have h2 : (thrL level m.flatten).length ≤ k := by unfold thrL; rw [List.length_map, hl, Nat.mul_comm]; omega
    rw [List.getElem?_eq_none h1, List.getElem?_eq_none h2]
end Go.Proofs.YtmmanehdmnkekaaGreat
