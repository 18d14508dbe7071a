/- Thresholds of grey pictures, on both sides. -/
import Derived.Test.YtkpgelhmeokemaaGreatDoorGreyK
import Derived.Test.YtkpgelhmeokemaaGreatDoorWith
namespace Go.Proofs.YtkpgelhmeokemaaGreatDoor
open Go Go.RowKit
/-- Where numbers are at least a level. -/
def thrL (level : Int) (zs : List Int) : List Bool := zs.map fun n => decide (level ≤ n)
theorem thrL_succ (level : Int) (zs : List Int) (k : Nat) (h : k < zs.length) : thrL level (zs.take (k + 1)) = thrL level (zs.take k) ++ [decide (level ≤ zs.getD k 0)] := by
  unfold thrL
  rw [List.take_succ_eq_append_getElem h, List.map_append, List.getD_eq_getElem?_getD, List.getElem?_eq_getElem h]
  rfl
theorem ThrRet.no {w w' : World} (hx : w.Ext w') : PicRet2 w [] false (.returned (.tuple #[.agg #[.slice none 0 0], .bool false])) w' := ⟨none, 0, rfl, hx, OwnOf.nil _ _⟩
theorem ThrRet.yes {w w' : World} {rows : List ByteArray} {a : Option Addr} {n c : Nat} (hn : n = rows.length) (hx : w.Ext w') (ho : OwnOf Value.string ByteArray.empty w.heap.size w'.heap.size w' a rows) :
    PicRet2 w rows true (.returned (.tuple #[.agg #[.slice a n c], .bool true])) w' := ⟨a, c, by rw [hn], hx, ho⟩
/-- What ThresholdGrey returns: the rows' texts. -/
def thrRows (m : List (List Int)) (level : Int) : List ByteArray := picRows (m.getD 0 []).length m.length (thrL level m.flatten)
def thrOk (m : List (List Int)) (level : Int) : Bool := tableOk m 99 && inB level 0 100
/-- The pixels that a threshold tells. -/
def thrgG (m : List (List Int)) (level : Int) (x y : Nat) : Bool := decide (level ≤ (m.getD y []).getD x 0)
theorem mkl_thr (W : Nat) (m : List (List Int)) (level : Int) (hW : 0 < W) (h : ∀ r, r < m.length → (m.getD r []).length = W) : mkl W m.length (thrgG m level) = thrL level m.flatten := by
  have hl := flat_len W m h
  apply List.ext_getElem?
  intro k
  by_cases hk : k < m.length * W
  · have hy : k / W < m.length := Nat.div_lt_of_lt_mul (by rw [Nat.mul_comm]; exact hk)
    have hx : k % W < W := Nat.mod_lt _ hW
    have e : k / W * W + k % W = k := by rw [Nat.mul_comm]; exact Nat.div_add_mod k W
    have h1 := flat_at W m (k / W) (k % W) h hy hx
    rw [e] at h1
    have hk2 : k < m.flatten.length := by rw [hl, Nat.mul_comm]; exact hk
    rw [List.getD_eq_getElem?_getD, List.getElem?_eq_getElem hk2, Option.getD_some] at h1
    unfold mkl thrL
    rw [List.getElem?_map, List.getElem?_range hk, Option.map_some, List.getElem?_map, List.getElem?_eq_getElem hk2, Option.map_some, h1]
    rfl
  · have h1 : (mkl W m.length (thrgG m level)).length ≤ k := by rw [mkl_len]; omega
    have h2 : (thrL level m.flatten).length ≤ k := by unfold thrL; rw [List.length_map, hl, Nat.mul_comm]; omega
    rw [List.getElem?_eq_none h1, List.getElem?_eq_none h2]
set_option maxHeartbeats 400000 in
theorem threshold1_any (p2 p3 p : Nat) (a : Option Addr) (c : Nat) (A : Nat → Option Addr) (C : Nat → Nat) (m : List (List Int)) (level : Int) (x y : Nat) (w : World) (hy : y < m.length) (hx : x < (m.getD y []).length)
    (h2 : w.cell? ⟨p2, 0, none⟩ = some (.pointer (some ⟨p, 0, none⟩))) (h3 : w.cell? ⟨p3, 0, none⟩ = some (.int .i64 level)) (hp : w.cell? ⟨p, 0, none⟩ = some (.slice a m.length c)) (hm : MatAt w a A C m) :
    Calls Tryz.prog 42 #[.int .i64 x, .int .i64 y, .pointer (some ⟨p2, 0, none⟩), .pointer (some ⟨p3, 0, none⟩)] w fun e w' => e = .returned (.bool (thrgG m level x y)) ∧ w.Ext w' := by
  obtain ⟨⟨b0, o0, rfl, hc0⟩, hr⟩ := hm y hy
  have hv : thrgG m level x y = decide (level ≤ (m.getD y []).getD x 0) := rfl
  rw [hv]
  clear hm hv
  generalize m.getD y [] = q at *
  obtain ⟨b1, o1, hA, hc1⟩ := hr x hx
  rw [hA] at hc0
  generalize q.getD x 0 = z at *
  have hy' : (y : Int) < (m.length : Int) := by omega
  have hx' : (x : Int) < (q.length : Int) := by omega
  have hx0 : (0 : Int) ≤ (x : Int) := by omega
  have hy0 : (0 : Int) ≤ (y : Int) := by omega
  clear hr hA
  go_enter Tryz.func42, Tryz.ntmps42
  go_wp2_with fail
  refine wp_region_over_lit (by kernel_rfl) (by kernel_rfl) ?_; (repeat (go_big_quiet_step (fail))); refine wpQuiet_nil ?_; rintro _ ⟨x1, rfl⟩
  go_wp2
  go_ret
  refine ⟨rfl, ?_⟩
  repeat (first | exact World.Ext.refl _ | exact ⟨_, rfl⟩ | assumption | refine World.Ext.over ?_ _ | refine World.Ext.drewN ?_ _ | refine World.Ext.drew ?_ | refine World.Ext.alloc ?_ _ | refine World.Ext.setCell ?_ (by simp) _)
theorem enters_threshold1 : Enters 42 := enters_of Tryz.func42 (by kernel_rfl) (by kernel_rfl)
set_option maxRecDepth 5000 in
set_option maxHeartbeats 800000 in
theorem threshold_any (p : Nat) (a : Option Addr) (c : Nat) (A : Nat → Option Addr) (C : Nat → Nat) (m : List (List Int)) (level : Int) (w : World) (hok : tableOk m 99 = true)
    (hp : w.cell? ⟨p, 0, none⟩ = some (.slice a m.length c)) (hm : MatAt w a A C m) :
    Calls Tryz.prog 18 #[.pointer (some ⟨p, 0, none⟩), .int .i64 level] w (ImgRet w (m.getD 0 []).length m.length (thrL level m.flatten)) := by
  obtain ⟨h1, h2, h3, h4, h5, _⟩ := tableOk_spec hok
  rw [← mkl_thr _ m level h3 h5]
  have HM := Lib.hid hm
  have HL := Lib.hid h5
  have HPOS := Lib.hid h1
  have HW : Hid ((m.getD 0 []).length ≤ 64) := by show _ ≤ _; omega
  have HH : Hid (m.length ≤ 64) := by show _ ≤ _; omega
  have hplt : p < w.heap.size := World.block_lt_of_cell? w _ hp
  clear hm h1 h2 h3 h4 h5 hok
  go_enter Tryz.func18, Tryz.ntmps18
  go_wp2_with fail
  refine (sizes_any p a c A C m _ HPOS.out (World.Ext.cell (by repeat (first | exact World.Ext.refl _ | exact ⟨_, rfl⟩ | assumption | refine World.Ext.over ?_ _ | refine World.Ext.drewN ?_ _ | refine World.Ext.drew ?_ | refine World.Ext.alloc ?_ _ | refine World.Ext.setCell ?_ (by simp) _)) hp) (HM.out.ext (by repeat (first | exact World.Ext.refl _ | exact ⟨_, rfl⟩ | assumption | refine World.Ext.over ?_ _ | refine World.Ext.drewN ?_ _ | refine World.Ext.drew ?_ | refine World.Ext.alloc ?_ _ | refine World.Ext.setCell ?_ (by simp) _)))).mono ?_
  rintro e w' ⟨rfl, x1, rfl⟩
  have q2 : World.cell? (((w.alloc (.cells #[.pointer (some ⟨p, 0, none⟩)] 78)).alloc (.cells #[.int .i64 level] 2)).over x1) ⟨w.heap.size, 0, none⟩ = some (.pointer (some ⟨p, 0, none⟩)) := by simp [go_sem]
  have q3 : World.cell? (((w.alloc (.cells #[.pointer (some ⟨p, 0, none⟩)] 78)).alloc (.cells #[.int .i64 level] 2)).over x1) ⟨w.heap.size + 1, 0, none⟩ = some (.int .i64 level) := by simp [go_sem]
  have hx : w.Ext (((w.alloc (.cells #[.pointer (some ⟨p, 0, none⟩)] 78)).alloc (.cells #[.int .i64 level] 2)).over x1) := by repeat (first | exact World.Ext.refl _ | exact ⟨_, rfl⟩ | assumption | refine World.Ext.over ?_ _ | refine World.Ext.drewN ?_ _ | refine World.Ext.drew ?_ | refine World.Ext.alloc ?_ _ | refine World.Ext.setCell ?_ (by simp) _)
  have hcall := made_any (m.getD 0 []).length m.length 42 #[.pointer (some ⟨w.heap.size, 0, none⟩), .pointer (some ⟨w.heap.size + 1, 0, none⟩)] (thrgG m level) _ HW.out HH.out enters_threshold1
    (fun w' hx' x y hxx hyy => threshold1_any w.heap.size (w.heap.size + 1) p a c A C m level x y w' hyy (by rw [HL.out y hyy]; exact hxx) (hx'.cell q2) (hx'.cell q3) ((hx.trans hx').cell hp) ((HM.out.ext hx).ext hx'))
  have HC := Lib.hid hcall
  have HX := Lib.hid hx
  clear hcall q2 q3 hx
  generalize (m.getD 0 []).length = W at *
  go_wp2_with fail
  refine HC.out.mono ?_
  rintro e w2 ⟨b, ab, rfl, hx2, hI, hb, hab⟩
  have HX2 := Lib.hid (HX.out.trans hx2)
  have HIM := Lib.hid hI
  have HB := Lib.hid (Nat.le_trans HX.out.size hb)
  have HAB := Lib.hid (Nat.le_trans HX.out.size hab)
  clear hx2 hI hb hab HC
  go_wp2
  go_ret
  exact ⟨b, ab, rfl, HX2.out, HIM.out, HB.out, HAB.out⟩
set_option maxRecDepth 5000 in
set_option maxHeartbeats 800000 in
theorem implThresholdGrey_any (a : Option Addr) (c : Nat) (A : Nat → Option Addr) (C : Nat → Nat) (m : List (List Int)) (level : Int) (w : World) (hn : m.length ≤ 1048576) (hrow : ∀ r, (m.getD r []).length ≤ 1048576) (hm : MatAt w a A C m) :
    Calls Tryz.prog 6 #[.agg #[.slice a m.length c], .int .i64 level] w (PicRet2 w (if thrOk m level then thrRows m level else []) (thrOk m level)) := by
  have HM := Lib.hid hm
  have HR := Lib.hid hrow
  have HN := Lib.hid hn
  clear hm hrow hn
  cases hok : tableOk m 99
  · have hv : thrOk m level = false := by simp [thrOk, hok]
    rw [hv]
    have HOK := Lib.hid hok
    clear hv hok
    go_enter Tryz.func6, Tryz.ntmps6
    go_wp2_with (go_at_call 12; refine (validGrey_any a c A C m _ HN.out HR.out (HM.out.ext (by repeat (first | exact World.Ext.refl _ | exact ⟨_, rfl⟩ | assumption | refine World.Ext.over ?_ _ | refine World.Ext.drewN ?_ _ | refine World.Ext.drew ?_ | refine World.Ext.alloc ?_ _ | refine World.Ext.setCell ?_ (by simp) _))) _ HOK.out).mono ?_; rintro e w' ⟨rfl, x1, rfl⟩)
    refine bodyPost_ret (v := .tuple #[.agg #[.slice none 0 0], .bool false]) (by simp [results, Tryz.results6, go_sem]) rfl (ThrRet.no ?_)
    repeat (first | exact World.Ext.refl _ | exact ⟨_, rfl⟩ | assumption | refine World.Ext.over ?_ _ | refine World.Ext.drewN ?_ _ | refine World.Ext.drew ?_ | refine World.Ext.alloc ?_ _ | refine World.Ext.setCell ?_ (by simp) _)
  · have HOK := Lib.hid hok
    cases hl : inB level 0 100
    · have hv : thrOk m level = false := by simp [thrOk, hl]
      rw [hv]
      have HL := Lib.hid hl
      clear hv hok hl
      go_enter Tryz.func6, Tryz.ntmps6
      go_wp2_with (first | (go_at_call 12; refine (validGrey_any a c A C m _ HN.out HR.out (HM.out.ext (by repeat (first | exact World.Ext.refl _ | exact ⟨_, rfl⟩ | assumption | refine World.Ext.over ?_ _ | refine World.Ext.drewN ?_ _ | refine World.Ext.drew ?_ | refine World.Ext.alloc ?_ _ | refine World.Ext.setCell ?_ (by simp) _))) _ HOK.out).mono ?_; rintro e w' ⟨rfl, x1, rfl⟩) | (go_at_call 17; refine (in_any _ _ _ _ _ HL.out).mono ?_; rintro e w' ⟨rfl, x1, rfl⟩))
      refine bodyPost_ret (v := .tuple #[.agg #[.slice none 0 0], .bool false]) (by simp [results, Tryz.results6, go_sem]) rfl (ThrRet.no ?_)
      repeat (first | exact World.Ext.refl _ | exact ⟨_, rfl⟩ | assumption | refine World.Ext.over ?_ _ | refine World.Ext.drewN ?_ _ | refine World.Ext.drew ?_ | refine World.Ext.alloc ?_ _ | refine World.Ext.setCell ?_ (by simp) _)
    · have hv : thrOk m level = true := by simp [thrOk, hok, hl]
      rw [hv]
      have HL := Lib.hid hl
      obtain ⟨q1, q2, q3, q4, _, _⟩ := tableOk_spec hok
      have HW1 : Hid (1 ≤ (m.getD 0 []).length) := q3
      have HW2 : Hid ((m.getD 0 []).length ≤ 64) := by show _ ≤ _; omega
      have HH2 : Hid (m.length ≤ 64) := by show _ ≤ _; omega
      have hlen : (thrRows m level).length = m.length := by unfold thrRows; exact picRows_len _ _ _
      have HLEN := Lib.hid hlen
      clear hv hok hl q1 q2 q3 q4 hlen
      go_enter Tryz.func6, Tryz.ntmps6
      go_wp2_with fail
      refine (validGrey_any a c A C m _ HN.out HR.out (HM.out.ext (by repeat (first | exact World.Ext.refl _ | exact ⟨_, rfl⟩ | assumption | refine World.Ext.over ?_ _ | refine World.Ext.drewN ?_ _ | refine World.Ext.drew ?_ | refine World.Ext.alloc ?_ _ | refine World.Ext.setCell ?_ (by simp) _))) _ HOK.out).mono ?_
      rintro e w' ⟨rfl, x1, rfl⟩
      go_wp2_with fail
      refine (in_any _ _ _ _ _ HL.out).mono ?_
      rintro e w' ⟨rfl, x2, rfl⟩
      go_wp2_with fail
      refine (threshold_any w.heap.size a c A C m level _ HOK.out (by simp [go_sem]) (HM.out.ext (by repeat (first | exact World.Ext.refl _ | exact ⟨_, rfl⟩ | assumption | refine World.Ext.over ?_ _ | refine World.Ext.drewN ?_ _ | refine World.Ext.drew ?_ | refine World.Ext.alloc ?_ _ | refine World.Ext.setCell ?_ (by simp) _)))).mono ?_
      rintro e w3 ⟨b, ab, rfl, hx3, hI, _, _⟩
      have hx0 : w.Ext ((((w.alloc (.cells #[.slice a m.length c] 26)).alloc (.cells #[.slice none 0 0] 31)).over x1).over x2) := by repeat (first | exact World.Ext.refl _ | exact ⟨_, rfl⟩ | assumption | refine World.Ext.over ?_ _ | refine World.Ext.drewN ?_ _ | refine World.Ext.drew ?_ | refine World.Ext.alloc ?_ _ | refine World.Ext.setCell ?_ (by simp) _)
      have hres := (((One.new (w.alloc (.cells #[.slice a m.length c] 26)) (.slice none 0 0) 31 (w.heap.size + 1) (by simp)).ext ⟨x1, rfl⟩).ext ⟨x2, rfl⟩).ext hx3
      have hx30 := hx0.trans hx3
      have HX3 := Lib.hid hx30
      have HRES := Lib.hid hres
      have HIM := Lib.hid hI
      clear hx3 hI hx30 hx0
      have hlt : w.heap.size + 1 < w3.heap.size := hres.lt
      go_wp2_with fail
      refine (told_any b ab (m.getD 0 []).length m.length (thrL level m.flatten) _ HW1.out HW2.out HH2.out HIM.out).mono ?_
      rintro e w4 ⟨a4, c4, rfl, hx4, ho4⟩
      rw [picRows_len]
      have hr4 := HRES.out.ext hx4
      have hc4 := hr4.cell
      have hf4 := hr4.free
      have hx5 := (HX3.out.trans hx4).setCell (p := ⟨w.heap.size + 1, 0, none⟩) (by simp) (.slice a4 m.length c4)
      have ho5 := (ho4.wrote (S := fun b => b = w.heap.size + 1) (Wrote.setCell (S := fun b => b = w.heap.size + 1) (Wrote.refl _ w4) (p := ⟨w.heap.size + 1, 0, none⟩) rfl (.slice a4 m.length c4)) (fun k h1 h2 => by omega)).mono (lo' := w.heap.size) (hi' := (w4.setCell ⟨w.heap.size + 1, 0, none⟩ (.slice a4 m.length c4)).heap.size) (HX3.out.size) (by simp)
      have hr5 := (hr4.set (.slice a4 m.length c4)).cell
      have HX5 := Lib.hid hx5
      have HO5 := Lib.hid ho5
      clear hx5 ho5 hx4 ho4 hres hlt hr4
      go_wp2
      exact bodyPost_ret (v := .tuple #[.agg #[.slice a4 m.length c4], .bool true]) (by simp [results, Tryz.results6, go_sem, hr5]) rfl (ThrRet.yes (picRows_len _ _ _).symm HX5.out HO5.out)
end Go.Proofs.YtkpgelhmeokemaaGreatDoor
