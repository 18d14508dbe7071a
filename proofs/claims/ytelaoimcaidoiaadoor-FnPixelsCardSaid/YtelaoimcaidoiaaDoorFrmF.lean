/- PictureFrom: a picture by its black pixels. -/
import Derived.Test.YtelaoimcaidoiaaDoorReach
import Derived.Test.YtelaoimcaidoiaaDoorRecP
namespace Go.Proofs.YtelaoimcaidoiaaDoor
open Go Go.RowKit
/-- An image under way. -/
structure FrSt (W0 : World) (b ab W H : Nat) (l : List Bool) (wr : World) : Prop where
  x : W0.Ext wr
  im : Img wr b ab W H l
theorem takeQ {ps : List (Int × Int)} {k : Nat} (hk : k < ps.length) : ps.take (k + 1) = ps.take k ++ [ps.getD k (0, 0)] := by
  rw [List.take_succ_eq_append_getElem hk, List.getD_eq_getElem?_getD, List.getElem?_eq_getElem hk]
  rfl
theorem FrSt.ext {W0 wr w' : World} {b ab W H : Nat} {l : List Bool} (h : FrSt W0 b ab W H l wr) (hx : wr.Ext w') : FrSt W0 b ab W H l w' := ⟨h.x.trans hx, h.im.ext hx⟩
set_option maxRecDepth 5000 in
set_option maxHeartbeats 1600000 in
theorem pictureFrom_any (W H : Nat) (a : Option Addr) (c : Nat) (ps : List (Int × Int)) (w : World) (hW1 : 1 ≤ W) (hH1 : 1 ≤ H) (hW : W ≤ 16) (hH : H ≤ 16) (hn : ps.length ≤ 1048576) (hin : ∀ q, q ∈ ps → 0 ≤ q.1 ∧ q.1 < W ∧ 0 ≤ q.2 ∧ q.2 < H) (hm : RowP w a ps) :
    Calls Tryd.prog 7 #[.int .i64 W, .int .i64 H, .slice a ps.length c] w (PicRet2 w (picRows W H (mkl W H (inL ps))) true) := by
  obtain ⟨W0, hW0⟩ : ∃ W0, W0 = w.alloc (.cells #[.slice none 0 0] 26) := ⟨_, rfl⟩
  have hx0 : w.Ext W0 := by rw [hW0]; repeat (first | exact World.Ext.refl _ | exact ⟨_, rfl⟩ | assumption | refine World.Ext.over ?_ _ | refine World.Ext.drewN ?_ _ | refine World.Ext.drew ?_ | refine World.Ext.alloc ?_ _ | refine World.Ext.setCell ?_ (by simp) _)
  have hone : One W0 w.heap.size 26 (.slice none 0 0) := by rw [hW0]; exact One.new _ _ _ _ rfl
  have hl0 : w.heap.size < W0.heap.size := hone.lt
  have HS := Lib.hid (sizeOk_any W H W0 true (by unfold sizeB; rw [inB_true.2 (by omega), inB_true.2 (by omega)]; rfl))
  have HX0 := Lib.hid hx0
  have HO := Lib.hid hone
  have HM : Hid (∀ w', W0.Ext w' → RowP w' a ps) := fun w' h => RowP.ext (RowP.ext hm hx0) h
  have HIN := Lib.hid (fun k (hk : k < ps.length) => hin _ (getD_mem hk))
  have HTK := Lib.hid (fun k (hk : k < ps.length) => takeQ hk)
  clear hx0 hone hm hin
  obtain ⟨R, hR⟩ : ∃ R, R = picRows W H (mkl W H (inL ps)) := ⟨_, rfl⟩
  have HRR := Lib.hid hR
  rw [← hR]
  clear hR
  go_enter Tryd.func7, Tryd.ntmps7
  go_upto_region 1 with fail
  rw [← hW0]
  clear hW0
  go_wp2_with fail
  refine HS.out.mono ?_
  rintro e w1 ⟨rfl, hx1⟩
  have HB := Lib.hid (blank_any W H w1 (by omega) (by omega))
  have HX1 := Lib.hid hx1
  clear hx1 HS
  go_wp2_with fail
  refine HB.out.mono ?_
  rintro e w2 ⟨b, ab, rfl, hx2, hI, hb, hab⟩
  have hab0 : W0.heap.size ≤ ab := Nat.le_trans HX1.out.size hab
  have HST : Hid (FrSt W0 b ab W H (mkl W H (inL (ps.take 0))) w2) := ⟨HX1.out.trans hx2, by
    have e : mkl W H (inL (ps.take 0)) = List.replicate (W * H) false := by
      rw [Nat.mul_comm W H, ← mkl_false]
      refine mkl_congr fun x y _ _ => ?_
      simp [inL]
    rw [e]; exact hI⟩
  clear hx2 hI hb hab HB HX1
  go_wp2
  go_loopw [10, 21] (fun _ i wr => ∃ k : Nat, k ≤ ps.length ∧ i = .int .i64 k ∧ Hid (FrSt W0 b ab W H (mkl W H (inL (ps.take k))) wr)) (fun _ i _ => ps.length - (intOf i).toNat)
  case atStart => exact ⟨0, Nat.zero_le _, rfl, HST⟩
  case round =>
    clear HST
    obtain ⟨k, hk, rfl, HS⟩ := hrel
    obtain ⟨wo, rfl⟩ : ∃ wo : World, wo = wr := ⟨_, rfl⟩
    have hk0 : (0 : Int) ≤ (k : Int) := by omega
    by_cases hlt : k < ps.length
    · have hlt' : (k : Int) < (ps.length : Int) := by omega
      obtain ⟨b1, o1, rfl, hc0, hc1⟩ := (HM.out wo HS.out.x).at hlt
      have hin := HIN.out k hlt
      have htk := HTK.out k hlt
      obtain ⟨s, hs⟩ : ∃ s, s = ps.getD k (0, 0) := ⟨_, rfl⟩
      rw [← hs] at hc0 hc1 hin htk
      clear hs
      obtain ⟨x, y⟩ := s
      dsimp only at hc0 hc1 hin
      obtain ⟨i, rfl⟩ := Int.eq_ofNat_of_zero_le hin.1
      obtain ⟨j, rfl⟩ := Int.eq_ofNat_of_zero_le hin.2.2.1
      have hi : i < W := by omega
      have hj : j < H := by omega
      have HNX : Hid (∀ w', Img w' b ab W H ((mkl W H (inL (ps.take k))).set ((j : Int) * W + i).toNat true) → Img w' b ab W H (mkl W H (inL (ps.take (k + 1))))) := fun w' h => by
        have e : (mkl W H (inL (ps.take k))).set ((j : Int) * W + i).toNat true = mkl W H (inL (ps.take (k + 1))) := by
          rw [show ((j : Int) * W + i).toNat = j * W + i by rw [← Int.natCast_mul, ← Int.natCast_add, Int.toNat_natCast], mkl_enter hi hj, htk]
        rw [← e]; exact h
      clear htk hin
      generalize mkl W H (inL (ps.take k)) = l at *
      obtain ⟨w3, hw3⟩ : ∃ w3, w3 = wo.alloc (.cells #[.int .i64 (i : Int), .int .i64 (j : Int)] 39) := ⟨_, rfl⟩
      have hx3 : wo.Ext w3 := by rw [hw3]; repeat (first | exact World.Ext.refl _ | exact ⟨_, rfl⟩ | assumption | refine World.Ext.over ?_ _ | refine World.Ext.drewN ?_ _ | refine World.Ext.drew ?_ | refine World.Ext.alloc ?_ _ | refine World.Ext.setCell ?_ (by simp) _)
      have e0 : w3.cell? ⟨wo.heap.size, 0, none⟩ = some (.int .i64 (i : Int)) := by rw [hw3]; simp [go_sem]
      have e1 : w3.cell? ⟨wo.heap.size, 1, none⟩ = some (.int .i64 (j : Int)) := by rw [hw3]; simp [go_sem]
      have le := World.block_lt_of_cell? _ _ e0
      have HE : Hid (∀ w', w3.Ext w' → w'.cell? ⟨wo.heap.size, 0, none⟩ = some (.int .i64 (i : Int)) ∧ w'.cell? ⟨wo.heap.size, 1, none⟩ = some (.int .i64 (j : Int))) := fun w' h => ⟨h.cell e0, h.cell e1⟩
      have HS3 := Lib.hid (HS.out.ext hx3)
      have HHAS := Lib.hid (has_any b ab W H l i j w3 (by omega) (by omega) HS3.out.im true (hasB_true.2 (by omega)))
      clear hx3 HS
      go_upto_region 7 with fail
      rw [← hw3]
      clear hw3 hc0 hc1
      generalize wo.heap.size = p10 at *
      go_wp2_with fail
      refine HHAS.out.mono ?_
      rintro e w4 ⟨rfl, hx4⟩
      have HS4 := Lib.hid (HS3.out.ext hx4)
      clear e0 e1 le
      obtain ⟨e0, e1⟩ := HE.out w4 hx4
      have le := World.block_lt_of_cell? _ _ e0
      have HSET := Lib.hid (set_any b ab W H l i j true w4 (by omega) (by omega) HS4.out.im (by omega) (by omega) (by omega) (by omega))
      clear hx4 HS3 HHAS HE
      go_wp2_with fail
      refine HSET.out.mono ?_
      rintro e w5 ⟨rfl, hw5, hi5⟩
      have HS5 : Hid (FrSt W0 b ab W H (mkl W H (inL (ps.take (k + 1)))) w5) := ⟨HS4.out.x.wroteNew hw5 fun q hq => by omega, HNX.out w5 hi5⟩
      clear hw5 hi5 HSET HS4 HNX e0 e1 le
      go_wp2
      go_roundw
      case rel => exact ⟨k + 1, by omega, by go_num, HS5⟩
      case measure => simp [intOf]; omega
    · have hkk : k = ps.length := by omega
      subst hkk
      rw [List.take_length] at HS
      generalize mkl W H (inL ps) = l at *
      have HT := Lib.hid (told_any b ab W H l wo hW1 (by omega) (by omega) HS.out.im)
      rw [← HRR.out] at HT
      clear HIN HTK HM HRR
      go_wp2_with fail
      refine HT.out.mono ?_
      rintro e w6 ⟨a3, c3, rfl, hx3, ho3⟩
      obtain ⟨r1, r2, r3, HR⟩ := Res.store (.slice a3 R.length c3) (HX0.out.trans (HS.out.x.trans hx3)) (Nat.le_refl _) ((HO.out.ext HS.out.x).ext hx3) (Nat.lt_of_lt_of_le hl0 HS.out.x.size) ho3
      have l6 := HO.out.lt
      have l7 := (HS.out.x.trans hx3).size
      clear hx3 ho3 HS HT
      go_wp2
      exact bodyPost_ret (v := .tuple #[.agg #[.slice a3 R.length c3], .bool true]) (by simp [results, Tryd.results7, go_sem, r3]) rfl ⟨a3, c3, rfl, HR.out.1, HR.out.2⟩
end Go.Proofs.YtelaoimcaidoiaaDoor
