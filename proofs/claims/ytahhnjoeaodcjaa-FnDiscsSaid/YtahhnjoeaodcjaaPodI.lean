/- PictureOfDiscs and FarSpots: the program's. -/
import Derived.Test.YtahhnjoeaodcjaaFewP
import Derived.Test.YtahhnjoeaodcjaaDscI
namespace Go.Proofs.Ytahhnjoeaodcjaa
open Go Go.RowKit
/-- Discs that may be painted. -/
structure DsOk (W H : Nat) (ds : List (Int × Int × Int)) : Prop where
  few : ds.length ≤ 256
  at_ : ∀ i, i < ds.length → 0 ≤ (ds.getD i (0, 0, 0)).1 ∧ (ds.getD i (0, 0, 0)).1 < W ∧ 0 ≤ (ds.getD i (0, 0, 0)).2.1 ∧ (ds.getD i (0, 0, 0)).2.1 < H ∧ 1 ≤ (ds.getD i (0, 0, 0)).2.2 ∧ (ds.getD i (0, 0, 0)).2.2 ≤ 512
def anyD (kind : Int) (ds : List (Int × Int × Int)) (x y : Nat) : Bool := ds.any fun d => hasT kind d x y
set_option maxRecDepth 5000 in
set_option maxHeartbeats 1600000 in
theorem indexFuncD_any (a : Option Addr) (c f : Nat) (cv1 cv2 cv3 : Value) (ds : List (Int × Int × Int)) (p : Int × Int × Int → Bool) (w : World) (hn : ds.length ≤ 1048576) (hr : RowD w a ds) (he : Enters f)
    (hf : ∀ w', w.Ext w' → ∀ i, i < ds.length → Calls Try.prog f #[.agg #[.int .i64 (ds.getD i (0, 0, 0)).1, .int .i64 (ds.getD i (0, 0, 0)).2.1, .int .i64 (ds.getD i (0, 0, 0)).2.2], cv1, cv2, cv3] w' fun e w'' => e = .returned (.bool (p (ds.getD i (0, 0, 0)))) ∧ w'.Ext w'') :
    Calls Try.prog 222 #[.slice a ds.length c, .func (.func f) #[] #[cv1, cv2, cv3]] w fun e w' => ∃ z : Int, e = .returned (.int .i64 z) ∧ w.Ext w' ∧ (z ≥ 0 ↔ ds.any p = true) := by
  have HR := Lib.hid hr
  have HF := Lib.hid hf
  have hn2 : ds.length ≤ 4611686018427387904 := by omega
  have HNO : Hid ((∀ i, i < ds.length → p (ds.getD i (0, 0, 0)) = false) → ds.any p = false) := fun h => by
    rw [List.any_eq_false]
    intro x hx
    obtain ⟨i, hi, rfl⟩ := List.getElem_of_mem hx
    have := h i hi
    rw [List.getD_eq_getElem?_getD, List.getElem?_eq_getElem hi] at this
    rw [Bool.not_eq_true]
    exact this
  have HYES : Hid (∀ i, i < ds.length → p (ds.getD i (0, 0, 0)) = true → ds.any p = true) := fun i hi h => by
    rw [List.any_eq_true]
    refine ⟨ds[i], List.getElem_mem hi, ?_⟩
    rw [List.getD_eq_getElem?_getD, List.getElem?_eq_getElem hi] at h
    exact h
  generalize ds.any p = r at *
  unfold Enters at he
  clear hr hf hn
  go_enter Try.func222, Try.ntmps222
  go_wp2
  go_loopw [5, 8] (fun _ i wr => ∃ k : Nat, k ≤ ds.length ∧ i = .int .i64 k ∧ Hid (∀ i, i < k → p (ds.getD i (0, 0, 0)) = false) ∧ Hid (w.Ext wr)) (fun _ i _ => ds.length - (intOf i).toNat)
  case atStart => exact ⟨0, Nat.zero_le _, rfl, fun i hi => by omega, .refl _⟩
  case round =>
    obtain ⟨k, hk, rfl, HK, HX⟩ := hrel
    obtain ⟨wo, rfl⟩ : ∃ wo : World, wo = wr := ⟨_, rfl⟩
    by_cases hlt : k < ds.length
    · obtain ⟨b, o, rfl, c0, c1, c2⟩ := (HR.out.ext HX.out).at hlt
      have hcall0 := HF.out wo HX.out k hlt
      have hlt' : (k : Int) < (ds.length : Int) := by omega
      have hk0 : (0 : Int) ≤ (k : Int) := by omega
      cases hpk : p (ds.getD k (0, 0, 0))
      · have HK1 : Hid (∀ i, i < k + 1 → p (ds.getD i (0, 0, 0)) = false) := fun i hi => by
          by_cases e : i = k
          · rw [e]; exact hpk
          · exact HK.out i (by omega)
        rw [hpk] at hcall0
        clear hpk
        generalize ds.getD k (0, 0, 0) = z at c0 c1 c2 hcall0
        have HC := Lib.hid hcall0
        clear hcall0
        go_wp2_with fail
        refine HC.out.mono ?_
        rintro e w2 ⟨rfl, hx2⟩
        have HX2 := Lib.hid (HX.out.trans hx2)
        clear hx2 c0 c1 c2
        go_wp2
        go_roundw
        case rel => exact ⟨k + 1, by omega, by go_num, HK1, HX2⟩
        case measure => simp [intOf]; omega
      · have HT := Lib.hid (HYES.out k hlt hpk)
        rw [hpk] at hcall0
        clear hpk
        generalize ds.getD k (0, 0, 0) = z at c0 c1 c2 hcall0
        have HC := Lib.hid hcall0
        clear hcall0
        go_wp2_with fail
        refine HC.out.mono ?_
        rintro e w2 ⟨rfl, hx2⟩
        have HX2 := Lib.hid (HX.out.trans hx2)
        clear hx2 c0 c1 c2
        go_wp2
        go_ret
        exact ⟨_, rfl, HX2.out, fun _ => HT.out, fun _ => hk0⟩
    · have hke : k = ds.length := by omega
      have HF := Lib.hid (HNO.out fun i hi => HK.out i (by omega))
      clear HK hke
      go_wp2
      go_ret
      exact ⟨-1, rfl, HX.out, fun h => by omega, fun h => by rw [HF.out] at h; cases h⟩
set_option maxRecDepth 5000 in
set_option maxHeartbeats 1600000 in
theorem containsFuncD_any (a : Option Addr) (c f : Nat) (cv1 cv2 cv3 : Value) (ds : List (Int × Int × Int)) (p : Int × Int × Int → Bool) (w : World) (hn : ds.length ≤ 1048576) (hr : RowD w a ds) (he : Enters f)
    (hf : ∀ w', w.Ext w' → ∀ i, i < ds.length → Calls Try.prog f #[.agg #[.int .i64 (ds.getD i (0, 0, 0)).1, .int .i64 (ds.getD i (0, 0, 0)).2.1, .int .i64 (ds.getD i (0, 0, 0)).2.2], cv1, cv2, cv3] w' fun e w'' => e = .returned (.bool (p (ds.getD i (0, 0, 0)))) ∧ w'.Ext w'') :
    Calls Try.prog 167 #[.slice a ds.length c, .func (.func f) #[] #[cv1, cv2, cv3]] w fun e w' => e = .returned (.bool (ds.any p)) ∧ w.Ext w' := by
  have HC := Lib.hid (indexFuncD_any a c f cv1 cv2 cv3 ds p w hn hr he hf)
  generalize ds.any p = r at *
  clear hr hf he hn
  go_enter Try.func167, Try.ntmps167
  go_wp2_with fail
  refine HC.out.mono ?_
  rintro e w1 ⟨z, rfl, hx1, hz⟩
  have HX := Lib.hid hx1
  clear hx1 HC
  cases r
  · have hzz : ¬ (z ≥ 0) := fun h => by rw [hz] at h; cases h
    clear hz
    go_wp2
    go_ret
    exact ⟨by first | (simp; done) | (simp; omega), HX.out⟩
  · have hzz : z ≥ 0 := hz.2 rfl
    clear hz
    go_wp2
    go_ret
    exact ⟨by first | (simp; done) | (simp; omega), HX.out⟩
theorem enters_pod11 : Enters 168 := enters_of Try.func168 (by kernel_rfl) (by kernel_rfl)
theorem enters_pod1 : Enters 166 := enters_of Try.func166 (by kernel_rfl) (by kernel_rfl)
set_option maxRecDepth 5000 in
set_option maxHeartbeats 1600000 in
theorem pod11_any (pk px py : Nat) (kind d1 d2 d3 x y : Int) (w : World) (h1 : -50 ≤ d1 ∧ d1 ≤ 50) (h2 : -50 ≤ d2 ∧ d2 ≤ 50) (h3 : -50 ≤ x ∧ x ≤ 50) (h4 : -50 ≤ y ∧ y ≤ 50)
    (ck : w.cell? ⟨pk, 0, none⟩ = some (.int .i64 kind)) (cx : w.cell? ⟨px, 0, none⟩ = some (.int .i64 x)) (cy : w.cell? ⟨py, 0, none⟩ = some (.int .i64 y)) :
    Calls Try.prog 168 #[.agg #[.int .i64 d1, .int .i64 d2, .int .i64 d3], .pointer (some ⟨pk, 0, none⟩), .pointer (some ⟨px, 0, none⟩), .pointer (some ⟨py, 0, none⟩)] w fun e w' => e = .returned (.bool (hasT kind (d1, d2, d3) x y)) ∧ w.Ext w' := by
  obtain ⟨W0, hW0⟩ : ∃ W0, W0 = w.alloc (.cells #[.int .i64 d1, .int .i64 d2, .int .i64 d3] 98) := ⟨_, rfl⟩
  have hx0 : w.Ext W0 := by rw [hW0]; repeat (first | exact World.Ext.refl _ | exact ⟨_, rfl⟩ | assumption | refine World.Ext.over ?_ _ | refine World.Ext.drewN ?_ _ | refine World.Ext.drew ?_ | refine World.Ext.alloc ?_ _ | refine World.Ext.setCell ?_ (by simp) _)
  have c0 : W0.cell? ⟨w.heap.size, 0, none⟩ = some (.int .i64 d1) := by rw [hW0]; simp [go_sem]
  have c1 : W0.cell? ⟨w.heap.size, 1, none⟩ = some (.int .i64 d2) := by rw [hW0]; simp [go_sem]
  have c2 : W0.cell? ⟨w.heap.size, 2, none⟩ = some (.int .i64 d3) := by rw [hW0]; simp [go_sem]
  have l0 := World.block_lt_of_cell? _ _ c0
  have ck0 := hx0.cell ck
  have cx0 := hx0.cell cx
  have cy0 := hx0.cell cy
  have lk := World.block_lt_of_cell? _ _ ck0
  have lx := World.block_lt_of_cell? _ _ cx0
  have ly := World.block_lt_of_cell? _ _ cy0
  have HC := Lib.hid (fun w' => discHas_any kind d1 d2 d3 x y w' h1 h2 h3 h4 _ rfl)
  have HX0 := Lib.hid hx0
  generalize hasT kind (d1, d2, d3) x y = t at *
  clear h1 h2 h3 h4 hx0 ck cx cy
  go_enter Try.func168, Try.ntmps168
  go_upto_region 1 with fail
  rw [← hW0]
  clear hW0
  go_wp2_with fail
  refine (HC.out _).mono ?_
  rintro e w2 ⟨rfl, hx2⟩
  have HX := Lib.hid (HX0.out.trans hx2)
  clear hx2
  go_wp2
  go_ret
  exact ⟨rfl, HX.out⟩
set_option maxRecDepth 5000 in
set_option maxHeartbeats 1600000 in
theorem pod1_any (pd pk W H : Nat) (kind : Int) (a : Option Addr) (c : Nat) (ds : List (Int × Int × Int)) (x y : Nat) (w : World) (hW : W ≤ 16) (hH : H ≤ 16) (hd : DsOk W H ds) (hx : x < W) (hy : y < H)
    (cd : w.cell? ⟨pd, 0, none⟩ = some (.slice a ds.length c)) (ck : w.cell? ⟨pk, 0, none⟩ = some (.int .i64 kind)) (hr : RowD w a ds) :
    Calls Try.prog 166 #[.int .i64 x, .int .i64 y, .pointer (some ⟨pd, 0, none⟩), .pointer (some ⟨pk, 0, none⟩)] w fun e w' => e = .returned (.bool (anyD kind ds x y)) ∧ w.Ext w' := by
  obtain ⟨W0, hW0⟩ : ∃ W0, W0 = (w.alloc (.cells #[.int .i64 x] 2)).alloc (.cells #[.int .i64 y] 2) := ⟨_, rfl⟩
  have hx0 : w.Ext W0 := by rw [hW0]; repeat (first | exact World.Ext.refl _ | exact ⟨_, rfl⟩ | assumption | refine World.Ext.over ?_ _ | refine World.Ext.drewN ?_ _ | refine World.Ext.drew ?_ | refine World.Ext.alloc ?_ _ | refine World.Ext.setCell ?_ (by simp) _)
  have cx : W0.cell? ⟨w.heap.size, 0, none⟩ = some (.int .i64 x) := by rw [hW0]; simp [go_sem]
  have cy : W0.cell? ⟨w.heap.size + 1, 0, none⟩ = some (.int .i64 y) := by rw [hW0]; simp [go_sem]
  have cd0 := hx0.cell cd
  have ck0 := hx0.cell ck
  have ld := World.block_lt_of_cell? _ _ cd0
  have HC : Hid (Calls Try.prog 167 #[.slice a ds.length c, .func (.func 168) #[] #[.pointer (some ⟨pk, 0, none⟩), .pointer (some ⟨w.heap.size, 0, none⟩), .pointer (some ⟨w.heap.size + 1, 0, none⟩)]] W0 fun e w' => e = .returned (.bool (anyD kind ds x y)) ∧ W0.Ext w') :=
    containsFuncD_any a c _ _ _ _ ds (fun d => hasT kind d x y) W0 (by have := hd.few; omega) (hr.ext hx0) enters_pod11 (fun w' hx' i hi => by
      obtain ⟨q1, q2, q3, q4, q5, q6⟩ := hd.at_ i hi
      exact pod11_any pk w.heap.size (w.heap.size + 1) kind _ _ _ x y w' (by omega) (by omega) (by omega) (by omega) (hx'.cell ck0) (hx'.cell cx) (hx'.cell cy))
  have HX0 := Lib.hid hx0
  generalize anyD kind ds x y = t at *
  clear hd hr hx0 cd ck hW hH hx hy
  go_enter Try.func166, Try.ntmps166
  go_upto_region 1 with fail
  rw [← hW0]
  clear hW0
  go_wp2_with fail
  refine HC.out.mono ?_
  rintro e w2 ⟨rfl, hx2⟩
  have HX := Lib.hid (HX0.out.trans hx2)
  clear hx2 HC
  go_wp2
  go_ret
  exact ⟨rfl, HX.out⟩
set_option maxRecDepth 5000 in
set_option maxHeartbeats 3200000 in
theorem pod_any (W H : Nat) (kind : Int) (a : Option Addr) (c : Nat) (ds : List (Int × Int × Int)) (w : World) (hW1 : 1 ≤ W) (hW : W ≤ 16) (hH1 : 1 ≤ H) (hH : H ≤ 16) (hk : inB kind 0 2 = true) (hd : DsOk W H ds) (hr : RowD w a ds) :
    Calls Try.prog 68 #[.int .i64 W, .int .i64 H, .int .i64 kind, .slice a ds.length c] w (PicRet2 w (picRows W H (mkl W H (anyD kind ds))) true) := by
  obtain ⟨W0, hW0⟩ : ∃ W0, W0 = ((w.alloc (.cells #[.int .i64 kind] 2)).alloc (.cells #[.slice a ds.length c] 88)).alloc (.cells #[.slice none 0 0] 26) := ⟨_, rfl⟩
  have hx0 : w.Ext W0 := by rw [hW0]; repeat (first | exact World.Ext.refl _ | exact ⟨_, rfl⟩ | assumption | refine World.Ext.over ?_ _ | refine World.Ext.drewN ?_ _ | refine World.Ext.drew ?_ | refine World.Ext.alloc ?_ _ | refine World.Ext.setCell ?_ (by simp) _)
  have ck : W0.cell? ⟨w.heap.size, 0, none⟩ = some (.int .i64 kind) := by rw [hW0]; simp [go_sem]
  have cd : W0.cell? ⟨w.heap.size + 1, 0, none⟩ = some (.slice a ds.length c) := by rw [hW0]; simp [go_sem]
  have HONE : Hid (One W0 (w.heap.size + 1 + 1) 26 (.slice none 0 0)) := by rw [hW0]; exact One.new _ _ _ _ (by simp)
  have HQ : Hid (∀ w', W0.Ext w' → w'.cell? ⟨w.heap.size, 0, none⟩ = some (.int .i64 kind) ∧ w'.cell? ⟨w.heap.size + 1, 0, none⟩ = some (.slice a ds.length c)) := fun w' hx => ⟨hx.cell ck, hx.cell cd⟩
  have HR := Lib.hid (hr.ext hx0)
  have HX0 := Lib.hid hx0
  have HD := Lib.hid hd
  have HSZ := Lib.hid (fun w' => sizeOk_any W H w' true (by unfold sizeB; simp [inB]; omega))
  have HK := Lib.hid (fun w' => kindOk_any kind w' _ hk)
  have HBL := Lib.hid (fun w' => blank_any W H w' (by omega) (by omega))
  have HMD : Hid (∀ w', W0.Ext w' → Calls Try.prog 165 #[.int .i64 W, .int .i64 H, .func (.func 166) #[] #[.pointer (some ⟨w.heap.size + 1, 0, none⟩), .pointer (some ⟨w.heap.size, 0, none⟩)]] w' (ImgRet w' W H (mkl W H (anyD kind ds)))) := fun w' hx =>
    made_any W H 166 _ _ w' (by omega) (by omega) enters_pod1 fun w2 hx2 x y h1 h2 => pod1_any (w.heap.size + 1) w.heap.size W H kind a c ds x y w2 hW hH hd h1 h2 ((hx.trans hx2).cell cd) ((hx.trans hx2).cell ck) (HR.out.ext (hx.trans hx2))
  have HTD : Hid (∀ w' b ab, Img w' b ab W H (mkl W H (anyD kind ds)) → Calls Try.prog 94 #[.pointer (some ⟨b, 0, none⟩)] w' (PicVal w' (picRows W H (mkl W H (anyD kind ds))))) := fun w' b ab hI => told_any b ab W H _ w' hW1 (by omega) (by omega) hI
  have HRL : Hid ((picRows W H (mkl W H (anyD kind ds))).length = H) := picRows_len _ _ _
  have hfew := hd.few
  clear hr hd hx0 hk
  generalize mkl W H (anyD kind ds) = L at *
  have lk := World.block_lt_of_cell? _ _ ck
  have ld := World.block_lt_of_cell? _ _ cd
  have hl3 := HONE.out.lt
  go_enter Try.func68, Try.ntmps68
  go_upto_region 1 with fail
  rw [← hW0]
  clear hW0
  go_wp2_with fail
  refine (HSZ.out _).mono ?_
  rintro e w1 ⟨rfl, hx1⟩
  clear ck cd lk ld
  obtain ⟨ck, cd⟩ := HQ.out w1 hx1
  have lk := World.block_lt_of_cell? _ _ ck
  have ld := World.block_lt_of_cell? _ _ cd
  go_wp2_with fail
  refine (HK.out _).mono ?_
  rintro e w2 ⟨rfl, hx2⟩
  have HX2 := Lib.hid (hx1.trans hx2)
  clear ck cd lk ld hx1 hx2
  obtain ⟨ck, cd⟩ := HQ.out w2 HX2.out
  have lk := World.block_lt_of_cell? _ _ ck
  have ld := World.block_lt_of_cell? _ _ cd
  have hfew' : (ds.length : Int) ≤ 256 := by omega
  have hfew2 : ¬ (256 : Int) < (ds.length : Int) := by omega
  go_wp2_with fail
  refine (HBL.out _).mono ?_
  rintro e w3 ⟨b3, ab3, rfl, hx3, hi3, -, -⟩
  have HX3 := Lib.hid (HX2.out.trans hx3)
  have HI3 := Lib.hid hi3
  clear ck cd lk ld hx3 hi3 HX2
  obtain ⟨ck, cd⟩ := HQ.out w3 HX3.out
  have lk := World.block_lt_of_cell? _ _ ck
  have ld := World.block_lt_of_cell? _ _ cd
  go_wp2
  clear ck cd lk ld
  go_loopw [12, 33] (fun _ z wr => ∃ i : Nat, i ≤ ds.length ∧ z = .int .i64 i ∧ Hid (w3.Ext wr)) (fun _ z _ => ds.length - (intOf z).toNat)
  case atStart => exact ⟨0, Nat.zero_le _, rfl, .refl _⟩
  case round =>
    obtain ⟨i, hi, rfl, HX⟩ := hrel
    obtain ⟨wo, rfl⟩ : ∃ wo : World, wo = wr := ⟨_, rfl⟩
    have hi0 : (0 : Int) ≤ (i : Int) := by omega
    by_cases hin : i < ds.length
    · have hin' : (i : Int) < (ds.length : Int) := by omega
      obtain ⟨b6, o6, rfl, r0, r1, r2⟩ := (HR.out.ext (HX3.out.trans HX.out)).at hin
      obtain ⟨q1, q2, q3, q4, q5, q6⟩ := HD.out.at_ i hin
      generalize ds.getD i (0, 0, 0) = d at *
      obtain ⟨d1, d2, d3⟩ := d
      dsimp only at r0 r1 r2 q1 q2 q3 q4 q5 q6
      have lr := World.block_lt_of_cell? _ _ r0
      obtain ⟨W5, hW5⟩ : ∃ W5, W5 = wo.alloc (.cells #[.int .i64 d1, .int .i64 d2, .int .i64 d3] 98) := ⟨_, rfl⟩
      have hx5 : wo.Ext W5 := by rw [hW5]; repeat (first | exact World.Ext.refl _ | exact ⟨_, rfl⟩ | assumption | refine World.Ext.over ?_ _ | refine World.Ext.drewN ?_ _ | refine World.Ext.drew ?_ | refine World.Ext.alloc ?_ _ | refine World.Ext.setCell ?_ (by simp) _)
      have t0 : W5.cell? ⟨wo.heap.size, 0, none⟩ = some (.int .i64 d1) := by rw [hW5]; simp [go_sem]
      have t1 : W5.cell? ⟨wo.heap.size, 1, none⟩ = some (.int .i64 d2) := by rw [hW5]; simp [go_sem]
      have t2 : W5.cell? ⟨wo.heap.size, 2, none⟩ = some (.int .i64 d3) := by rw [hW5]; simp [go_sem]
      have lt := World.block_lt_of_cell? _ _ t0
      have HX5 := Lib.hid (HX.out.trans hx5)
      have HH := Lib.hid (has_any b3 ab3 W H _ d1 d2 W5 (by omega) (by omega) (HI3.out.ext HX5.out) true (by rw [hasB_true]; omega))
      have HIN := Lib.hid (fun w' => in_any d3 1 512 w' true (inB_true.2 ⟨q5, q6⟩))
      go_upto_region 7 with fail
      rw [← hW5]
      clear hW5 r0 r1 r2 lr hx5
      go_wp2_with fail
      refine HH.out.mono ?_
      rintro e w6 ⟨rfl, hx6⟩
      have t2' := hx6.cell t2
      have lt' := World.block_lt_of_cell? _ _ t2'
      clear t0 t1 t2 lt
      go_wp2_with fail
      refine (HIN.out _).mono ?_
      rintro e w7 ⟨rfl, hx7⟩
      have HX7 := Lib.hid (HX5.out.trans (hx6.trans hx7))
      clear t2' lt' hx6 hx7
      go_wp2
      go_roundw
      case rel => exact ⟨i + 1, by omega, by go_num, HX7⟩
      case measure => simp [intOf]; omega
    · have hin2 : i = ds.length := by omega
      have HXA := Lib.hid (HX3.out.trans HX.out)
      clear hin2 HX
      go_wp2_with fail
      refine (HMD.out _ HXA.out).mono ?_
      rintro e w5 ⟨b5, ab5, rfl, hx5, hi5, -, -⟩
      have HT := Lib.hid (HTD.out w5 b5 ab5 hi5)
      clear hi5
      go_wp2_with fail
      refine HT.out.mono ?_
      rintro e w6 ⟨a6, c6, rfl, hx6, ho6⟩
      have hsz : W0.heap.size ≤ w5.heap.size := (HXA.out.trans hx5).size
      obtain ⟨r1, r2, r3, HRR⟩ := Res.store (lo := w5.heap.size) (.slice a6 (picRows W H L).length c6) (HX0.out.trans (HXA.out.trans (hx5.trans hx6))) (by omega) (HONE.out.ext (HXA.out.trans (hx5.trans hx6))) (by omega) ho6
      clear hx5 hx6 ho6 HT HRL
      generalize picRows W H L = RR at *
      go_wp2
      exact bodyPost_ret (v := .tuple #[.agg #[.slice a6 RR.length c6], .bool true]) (by simp [results, Try.results68, go_sem, r3]) rfl ⟨a6, c6, rfl, HRR.out.1, HRR.out.2⟩
set_option maxRecDepth 5000 in
set_option maxHeartbeats 1600000 in
theorem nearOk_any (x y : Int) (w : World) (h1 : -1 ≤ x ∧ x ≤ 16) (h2 : -1 ≤ y ∧ y ≤ 16) : Calls Try.prog 170 #[.agg #[.int .i64 x, .int .i64 y]] w fun e w' => e = .returned (.bool true) ∧ w.Ext w' := by
  obtain ⟨W0, hW0⟩ : ∃ W0, W0 = w.alloc (.cells #[.int .i64 x, .int .i64 y] 67) := ⟨_, rfl⟩
  have hx0 : w.Ext W0 := by rw [hW0]; repeat (first | exact World.Ext.refl _ | exact ⟨_, rfl⟩ | assumption | refine World.Ext.over ?_ _ | refine World.Ext.drewN ?_ _ | refine World.Ext.drew ?_ | refine World.Ext.alloc ?_ _ | refine World.Ext.setCell ?_ (by simp) _)
  have c0 : W0.cell? ⟨w.heap.size, 0, none⟩ = some (.int .i64 x) := by rw [hW0]; simp [go_sem]
  have c1 : W0.cell? ⟨w.heap.size, 1, none⟩ = some (.int .i64 y) := by rw [hW0]; simp [go_sem]
  have l0 := World.block_lt_of_cell? _ _ c0
  have H1 := Lib.hid (fun w' => in_any x (-1) 16 w' true (inB_true.2 h1))
  have H2 := Lib.hid (fun w' => in_any y (-1) 16 w' true (inB_true.2 h2))
  go_enter Try.func170, Try.ntmps170
  go_upto_region 1 with fail
  rw [← hW0]
  clear hW0
  go_wp2_with fail
  refine (H1.out _).mono ?_
  rintro e w1 ⟨rfl, hx1⟩
  have d1 := hx1.cell c1
  have l1 := World.block_lt_of_cell? _ _ d1
  clear c0 c1 l0
  go_wp2_with fail
  refine (H2.out _).mono ?_
  rintro e w2 ⟨rfl, hx2⟩
  have HX := Lib.hid (hx0.trans (hx1.trans hx2))
  clear hx0 hx1 hx2 d1 l1
  go_wp2
  go_ret
  exact ⟨rfl, HX.out⟩
set_option maxRecDepth 5000 in
set_option maxHeartbeats 1600000 in
theorem farSpots_any (kind ax ay bx by' : Int) (w : World) (hk : inB kind 0 2 = true) (h1 : -1 ≤ ax ∧ ax ≤ 16) (h2 : -1 ≤ ay ∧ ay ≤ 16) (h3 : -1 ≤ bx ∧ bx ≤ 16) (h4 : -1 ≤ by' ∧ by' ≤ 16) :
    Calls Try.prog 69 #[.int .i64 kind, .agg #[.int .i64 ax, .int .i64 ay], .agg #[.int .i64 bx, .int .i64 by']] w fun e w' => e = .returned (.tuple #[.int .i64 (farI kind (ax, ay) (bx, by')), .bool true]) ∧ w.Ext w' := by
  obtain ⟨W0, hW0⟩ : ∃ W0, W0 = (w.alloc (.cells #[.int .i64 ax, .int .i64 ay] 67)).alloc (.cells #[.int .i64 bx, .int .i64 by'] 67) := ⟨_, rfl⟩
  have hx0 : w.Ext W0 := by rw [hW0]; repeat (first | exact World.Ext.refl _ | exact ⟨_, rfl⟩ | assumption | refine World.Ext.over ?_ _ | refine World.Ext.drewN ?_ _ | refine World.Ext.drew ?_ | refine World.Ext.alloc ?_ _ | refine World.Ext.setCell ?_ (by simp) _)
  have HQ : Hid (∀ w', W0.Ext w' → w'.cell? ⟨w.heap.size, 0, none⟩ = some (.int .i64 ax) ∧ w'.cell? ⟨w.heap.size, 1, none⟩ = some (.int .i64 ay) ∧ w'.cell? ⟨w.heap.size + 1, 0, none⟩ = some (.int .i64 bx) ∧ w'.cell? ⟨w.heap.size + 1, 1, none⟩ = some (.int .i64 by')) := fun w' hx => by
    refine ⟨hx.cell ?_, hx.cell ?_, hx.cell ?_, hx.cell ?_⟩ <;> (rw [hW0]; simp [go_sem])
  have HK := Lib.hid (fun w' => kindOk_any kind w' _ hk)
  have HA := Lib.hid (fun w' => nearOk_any ax ay w' h1 h2)
  have HB := Lib.hid (fun w' => nearOk_any bx by' w' h3 h4)
  have HF := Lib.hid (fun w' => far_any kind (ax, ay) (bx, by') w' (by dsimp only; omega) (by dsimp only; omega) (by dsimp only; omega) (by dsimp only; omega) _ rfl)
  have HX0 := Lib.hid hx0
  generalize farI kind (ax, ay) (bx, by') = F at *
  clear hx0 hk h1 h2 h3 h4
  go_enter Try.func69, Try.ntmps69
  go_upto_region 1 with fail
  rw [← hW0]
  clear hW0
  go_wp2_with fail
  refine (HK.out _).mono ?_
  rintro e w1 ⟨rfl, hx1⟩
  obtain ⟨c0, c1, d0, d1⟩ := HQ.out w1 hx1
  have l0 := World.block_lt_of_cell? _ _ c0
  have l1 := World.block_lt_of_cell? _ _ d0
  go_wp2_with fail
  refine (HA.out _).mono ?_
  rintro e w2 ⟨rfl, hx2⟩
  have HX2 := Lib.hid (hx1.trans hx2)
  clear c0 c1 d0 d1 l0 l1 hx1 hx2
  obtain ⟨c0, c1, d0, d1⟩ := HQ.out w2 HX2.out
  have l0 := World.block_lt_of_cell? _ _ c0
  have l1 := World.block_lt_of_cell? _ _ d0
  go_wp2_with fail
  refine (HB.out _).mono ?_
  rintro e w3 ⟨rfl, hx3⟩
  have HX3 := Lib.hid (HX2.out.trans hx3)
  clear c0 c1 d0 d1 l0 l1 hx3
  obtain ⟨c0, c1, d0, d1⟩ := HQ.out w3 HX3.out
  have l0 := World.block_lt_of_cell? _ _ c0
  have l1 := World.block_lt_of_cell? _ _ d0
  go_wp2_with fail
  refine (HF.out _).mono ?_
  rintro e w4 ⟨rfl, hx4⟩
  have HX4 := Lib.hid (HX0.out.trans (HX3.out.trans hx4))
  clear c0 c1 d0 d1 l0 l1 hx4
  go_wp2
  go_ret2
  exact ⟨rfl, HX4.out⟩
end Go.Proofs.Ytahhnjoeaodcjaa
