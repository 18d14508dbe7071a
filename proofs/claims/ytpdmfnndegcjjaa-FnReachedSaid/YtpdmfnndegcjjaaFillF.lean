/- FillHoles, both sides. -/
import Derived.Test.YtpdmfnndegcjjaaListS
import Derived.Test.YtpdmfnndegcjjaaLab
import Derived.Test.YtpdmfnndegcjjaaRecF
namespace Go.Proofs.Ytpdmfnndegcjjaa
open Go.RowKit
theorem nbA_four (eight : Bool) (p : Int × Int) : (p.1, p.2 - 1) ∈ nbA eight p ∧ (p.1 - 1, p.2) ∈ nbA eight p ∧ (p.1 + 1, p.2) ∈ nbA eight p ∧ (p.1, p.2 + 1) ∈ nbA eight p := by
  unfold nbA
  simp only [List.mem_map]
  refine ⟨⟨(0, -1), ?_, ?_⟩, ⟨(-1, 0), ?_, ?_⟩, ⟨(1, 0), ?_, ?_⟩, ⟨(0, 1), ?_, ?_⟩⟩
  all_goals first | (cases eight <;> decide) | (simp; try omega)
theorem mkl_map_not (W H : Nat) (g : Nat → Nat → Bool) : (mkl W H g).map (!·) = mkl W H fun x y => !g x y := by unfold mkl; rw [List.map_map]; rfl
theorem mkl_not {W H : Nat} {l : List Bool} (hl : l.length = W * H) : mkl W H (fun x y => !pxl W H l x y) = l.map (!·) := by
  apply List.ext_getElem?
  intro k
  by_cases hk : k < H * W
  · have hW : 0 < W := by
      rcases Nat.eq_zero_or_pos W with e | e
      · rw [e] at hk; simp at hk
      · exact e
    have hx : k % W < W := Nat.mod_lt _ hW
    have hy : k / W < H := Nat.div_lt_of_lt_mul (by rw [Nat.mul_comm]; exact hk)
    have e : k / W * W + k % W = k := by rw [Nat.mul_comm]; exact Nat.div_add_mod k W
    have hkl : k < l.length := by rw [hl, Nat.mul_comm]; exact hk
    have er : (mkl W H fun x y => !pxl W H l x y)[k]? = some (!pxl W H l ((k % W : Nat) : Int) ((k / W : Nat) : Int)) := by unfold mkl; rw [List.getElem?_map, List.getElem?_range hk]; rfl
    rw [er, pxl_at _ _ _ _ _ hx hy, e, List.getElem?_map, List.getElem?_eq_getElem hkl, List.getD_eq_getElem?_getD, List.getElem?_eq_getElem hkl]
    rfl
  · rw [List.getElem?_eq_none (by rw [mkl_len]; omega), List.getElem?_eq_none (by rw [List.length_map, hl, Nat.mul_comm]; omega)]
theorem pxl_map_not {W H : Nat} {l : List Bool} (hl : l.length = W * H) {x y : Nat} (hx : x < W) (hy : y < H) : pxl W H (l.map (!·)) x y = !pxl W H l x y := by
  rw [pxl_at _ _ _ _ _ hx hy, pxl_at _ _ _ _ _ hx hy]
  have hk : y * W + x < l.length := by
    rw [hl]
    have := Nat.mul_le_mul_right W (show y + 1 ≤ H by omega)
    rw [Nat.succ_mul, Nat.mul_comm H] at this
    omega
  rw [List.getD_eq_getElem?_getD, List.getD_eq_getElem?_getD, List.getElem?_map, List.getElem?_eq_getElem hk]
  rfl
def bigP (W H : Nat) (l : List Bool) (p : Int × Int) : Bool := inB p.1 (-1) W && inB p.2 (-1) H && !pxl W H l p.1 p.2
/-- What is white from the outside: g says which pixels. -/
def OutG (W H : Nat) (l : List Bool) (e8 : Bool) (g : Nat → Nat → Bool) : Prop :=
  ∀ x y : Nat, x < W → y < H → (g x y = true ↔ Rch (pxP W H (l.map (!·))) (nbA e8) (spotsBy W (edgeB W H) (H * W)) ((x : Int), (y : Int)))
theorem OutG.ex (W H : Nat) (l : List Bool) (e8 : Bool) : ∃ g, OutG W H l e8 g :=
  ⟨fun x y => @decide (Rch (pxP W H (l.map (!·))) (nbA e8) (spotsBy W (edgeB W H) (H * W)) ((x : Int), (y : Int))) (Classical.propDecidable _), fun x y _ _ => by simp⟩
theorem OutG.big {W H : Nat} {l : List Bool} {e8 : Bool} {g : Nat → Nat → Bool} (h : OutG W H l e8 g) (hl : l.length = W * H) (hW : 1 ≤ W) (hH : 1 ≤ H) {x y : Nat} (hx : x < W) (hy : y < H) :
    g x y = true ↔ Rch (bigP W H l) (nbA e8) [(-1, -1)] ((x : Int), (y : Int)) := by
  rw [h x y hx hy]
  refine frame_in hW hH (fun p hp => ?_) (fun p hp => ?_) (fun p hp => ?_) (fun p h1 h2 => ?_) (fun p q => nbA_near) (nbA_four e8) (fun p => ?_) _ (by dsimp only; omega)
  · obtain ⟨x, y, rfl, h1, h2⟩ := pxP_nat hp
    dsimp only
    omega
  · obtain ⟨i, j⟩ := p
    dsimp only at hp
    obtain ⟨i, rfl⟩ : ∃ k : Nat, i = k := ⟨i.toNat, by omega⟩
    obtain ⟨j, rfl⟩ : ∃ k : Nat, j = k := ⟨j.toNat, by omega⟩
    unfold bigP pxP
    rw [pxl_map_not hl (by omega) (by omega)]
    have b1 : inB (i : Int) (-1) W = true := by rw [inB_true]; omega
    have b2 : inB (j : Int) (-1) H = true := by rw [inB_true]; omega
    simp [b1, b2]
  · unfold bigP at hp
    rw [Bool.and_eq_true, Bool.and_eq_true, inB_true, inB_true] at hp
    omega
  · unfold bigP
    have b1 : inB p.1 (-1) W = true := by rw [inB_true]; omega
    have b2 : inB p.2 (-1) H = true := by rw [inB_true]; omega
    have b3 : pxl W H l p.1 p.2 = false := by
      cases hd : hasB W H p.1 p.2
      · exact pxl_out hd
      · have := hasB_true.1 hd
        omega
    simp [b1, b2, b3]
  · rw [spotsBy_mem]
    constructor
    · rintro ⟨i, j, h1, h2, h3, rfl⟩
      unfold edgeB at h3
      simp only [Bool.or_eq_true, beq_iff_eq] at h3
      dsimp only
      omega
    · rintro ⟨h1, h2⟩
      refine ⟨p.1.toNat, p.2.toNat, by omega, by omega, ?_, Prod.ext (by simp; omega) (by simp; omega)⟩
      unfold edgeB
      simp only [Bool.or_eq_true, beq_iff_eq]
      omega
set_option maxRecDepth 5000 in
set_option maxHeartbeats 1600000 in
theorem out1_any (p b ab W H : Nat) (l : List Bool) (x y : Int) (w : World) (hW : W ≤ 64) (hH : H ≤ 64) (hp : w.cell? ⟨p, 0, none⟩ = some (.pointer (some ⟨b, 0, none⟩))) (hI : Img w b ab W H l) :
    Calls Try.prog 250 #[.agg #[.int .i64 x, .int .i64 y], .pointer (some ⟨p, 0, none⟩)] w fun e w' => e = .returned (.bool (bigP W H l (x, y))) ∧ w.Ext w' := by
  obtain ⟨W0, hW0⟩ : ∃ W0, W0 = w.alloc (.cells #[.int .i64 x, .int .i64 y] 90) := ⟨_, rfl⟩
  have hx0 : w.Ext W0 := by rw [hW0]; repeat (first | exact World.Ext.refl _ | exact ⟨_, rfl⟩ | assumption | refine World.Ext.over ?_ _ | refine World.Ext.drewN ?_ _ | refine World.Ext.drew ?_ | refine World.Ext.alloc ?_ _ | refine World.Ext.setCell ?_ (by simp) _)
  have d0 : W0.cell? ⟨w.heap.size, 0, none⟩ = some (.int .i64 x) := by rw [hW0]; simp [go_sem]
  have d1 : W0.cell? ⟨w.heap.size, 1, none⟩ = some (.int .i64 y) := by rw [hW0]; simp [go_sem]
  have cp := hx0.cell hp
  have c0 := (hI.ext hx0).c0
  have c1 := (hI.ext hx0).c1
  have HI1 : Hid (∀ w' t, inB x (-1) W = t → Calls Try.prog 106 #[.int .i64 x, .int .i64 (-1), .int .i64 W] w' fun e w'' => e = .returned (.bool t) ∧ w'.Ext w'') := fun w' t ht => in_any _ _ _ w' t ht
  have HI2 : Hid (∀ w' t, inB y (-1) H = t → Calls Try.prog 106 #[.int .i64 y, .int .i64 (-1), .int .i64 H] w' fun e w'' => e = .returned (.bool t) ∧ w'.Ext w'') := fun w' t ht => in_any _ _ _ w' t ht
  have HG : Hid (∀ w' t, W0.Ext w' → pxl W H l x y = t → Calls Try.prog 102 #[.pointer (some ⟨b, 0, none⟩), .int .i64 x, .int .i64 y] w' fun e w'' => e = .returned (.bool t) ∧ w'.Ext w'') := fun w' t hx ht => get_any b ab W H l x y w' hW hH ((hI.ext hx0).ext hx) t ht
  have HX0 := Lib.hid hx0
  unfold bigP
  dsimp only
  clear hI hp hx0
  cases h1 : inB x (-1) W
  · have HC1 := Lib.hid (fun w' => HI1.out w' _ h1)
    simp only [Bool.false_and]
    clear h1 HI1 HI2 HG
    go_enter Try.func250, Try.ntmps250
    go_wp2_with fail
    rw [← hW0]
    clear hW0
    refine wp_region_over_lit (by kernel_rfl) (by kernel_rfl) ?_; (repeat (go_big_quiet_step ((go_at_call 106; exact Calls.over_of (HC1.out _))))); refine wpQuiet_nil ?_; rintro _ ⟨x1, rfl⟩
    have HX : Hid (w.Ext (W0.over x1)) := HX0.out.trans ⟨x1, rfl⟩
    go_wp2
    go_ret
    exact ⟨rfl, HX.out⟩
  · have HC1 := Lib.hid (fun w' => HI1.out w' _ h1)
    cases h2 : inB y (-1) H
    · have HC2 := Lib.hid (fun w' => HI2.out w' _ h2)
      simp only [Bool.true_and, Bool.false_and]
      clear h1 h2 HI1 HI2 HG
      go_enter Try.func250, Try.ntmps250
      go_wp2_with fail
      rw [← hW0]
      clear hW0
      refine wp_region_over_lit (by kernel_rfl) (by kernel_rfl) ?_; (repeat (go_big_quiet_step ((first | (go_at_call_of 106 x; exact Calls.over_of (HC1.out _)) | (go_at_call_of 106 y; exact Calls.over_of (HC2.out _)))))); refine wpQuiet_nil ?_; rintro _ ⟨x1, rfl⟩
      have HX : Hid (w.Ext (W0.over x1)) := HX0.out.trans ⟨x1, rfl⟩
      go_wp2
      go_ret
      exact ⟨rfl, HX.out⟩
    · have HC2 := Lib.hid (fun w' => HI2.out w' _ h2)
      cases h3 : pxl W H l x y
      · have HC3 : Hid (∀ x1, Calls Try.prog 102 #[.pointer (some ⟨b, 0, none⟩), .int .i64 x, .int .i64 y] (W0.over x1) fun e w'' => e = .returned (.bool false) ∧ (W0.over x1).Ext w'') := fun x1 => HG.out _ _ ⟨x1, rfl⟩ h3
        simp only [Bool.true_and, Bool.not_false]
        clear h1 h2 h3 HI1 HI2 HG
        go_enter Try.func250, Try.ntmps250
        go_wp2_with fail
        rw [← hW0]
        clear hW0
        refine wp_region_over_lit (by kernel_rfl) (by kernel_rfl) ?_; (repeat (go_big_quiet_step ((first | (go_at_call_of 106 x; exact Calls.over_of (HC1.out _)) | (go_at_call_of 106 y; exact Calls.over_of (HC2.out _)) | (go_at_call 102; exact Calls.over_of (HC3.out _)))))); refine wpQuiet_nil ?_; rintro _ ⟨x1, rfl⟩
        have HX : Hid (w.Ext (W0.over x1)) := HX0.out.trans ⟨x1, rfl⟩
        go_wp2
        go_ret
        exact ⟨rfl, HX.out⟩
      · have HC3 : Hid (∀ x1, Calls Try.prog 102 #[.pointer (some ⟨b, 0, none⟩), .int .i64 x, .int .i64 y] (W0.over x1) fun e w'' => e = .returned (.bool true) ∧ (W0.over x1).Ext w'') := fun x1 => HG.out _ _ ⟨x1, rfl⟩ h3
        simp only [Bool.true_and, Bool.not_true]
        clear h1 h2 h3 HI1 HI2 HG
        go_enter Try.func250, Try.ntmps250
        go_wp2_with fail
        rw [← hW0]
        clear hW0
        refine wp_region_over_lit (by kernel_rfl) (by kernel_rfl) ?_; (repeat (go_big_quiet_step ((first | (go_at_call_of 106 x; exact Calls.over_of (HC1.out _)) | (go_at_call_of 106 y; exact Calls.over_of (HC2.out _)) | (go_at_call 102; exact Calls.over_of (HC3.out _)))))); refine wpQuiet_nil ?_; rintro _ ⟨x1, rfl⟩
        have HX : Hid (w.Ext (W0.over x1)) := HX0.out.trans ⟨x1, rfl⟩
        go_wp2
        go_ret
        exact ⟨rfl, HX.out⟩
theorem enters_out1 : Enters 250 := enters_of Try.func250 (by kernel_rfl) (by kernel_rfl)
theorem bigP_true {W H : Nat} {l : List Bool} {p : Int × Int} (h : bigP W H l p = true) : -1 ≤ p.1 ∧ p.1 ≤ W ∧ -1 ≤ p.2 ∧ p.2 ≤ H := by
  unfold bigP at h
  rw [Bool.and_eq_true, Bool.and_eq_true, inB_true, inB_true] at h
  omega
set_option maxRecDepth 5000 in
set_option maxHeartbeats 1600000 in
theorem outside_any (b ab W H : Nat) (l : List Bool) (eight : Bool) (w : World) (hW : W ≤ 64) (hH : H ≤ 64) (hI : Img w b ab W H l) :
    Calls Try.prog 211 #[.pointer (some ⟨b, 0, none⟩), .bool eight] w (MapRet w (bigP W H l) (nbA eight) [(-1, -1)]) := by
  obtain ⟨W0, hW0⟩ : ∃ W0, W0 = (w.alloc (.cells #[.pointer (some ⟨b, 0, none⟩)] 121)).alloc (.cells #[.int .i64 (-1), .int .i64 (-1)] 90) := ⟨_, rfl⟩
  have hx0 : w.Ext W0 := by rw [hW0]; repeat (first | exact World.Ext.refl _ | exact ⟨_, rfl⟩ | assumption | refine World.Ext.over ?_ _ | refine World.Ext.drewN ?_ _ | refine World.Ext.drew ?_ | refine World.Ext.alloc ?_ _ | refine World.Ext.setCell ?_ (by simp) _)
  have cp : W0.cell? ⟨w.heap.size, 0, none⟩ = some (.pointer (some ⟨b, 0, none⟩)) := by rw [hW0]; simp [go_sem]
  have hrow : RowP W0 (some ⟨w.heap.size + 1, 0, none⟩) [(-1, -1)] := by
    intro i hi
    have hi2 : i < 2 := hi
    refine ⟨w.heap.size + 1, 0, rfl, ?_⟩
    rw [hW0]
    match i, hi2 with
    | 0, _ => simp [go_sem, flatP]
    | 1, _ => simp [go_sem, flatP]
  have HS : Hid (Calls Try.prog 99 #[.slice (some ⟨w.heap.size + 1, 0, none⟩) 1 1, .bool eight, .func (.func 250) #[] #[.pointer (some ⟨w.heap.size, 0, none⟩)]] W0 (MapRet W0 (bigP W H l) (nbA eight) [(-1, -1)])) :=
    spread_any _ 1 [(-1, -1)] eight _ _ (bigP W H l) (boxL (-1) (-1) (W + 2) (H + 2)) W0 enters_out1 hrow (by simp) (fun q hq => by simp at hq; subst hq; simp) (fun p hp => by have := bigP_true hp; exact boxL_mem (by omega) (by omega) (by omega) (by omega))
      (by rw [boxL_len]; exact Nat.le_trans (Nat.mul_le_mul (show H + 2 ≤ 66 by omega) (show W + 2 ≤ 66 by omega)) (by omega)) (fun p hp => by have := bigP_true hp; omega) (fun w'' hx x y _ _ => out1_any _ b ab W H l x y w'' hW hH (hx.cell cp) ((hI.ext hx0).ext hx))
  have HX0 := Lib.hid hx0
  clear hI cp hrow hx0
  go_enter Try.func211, Try.ntmps211
  go_wp2_with fail
  rw [← hW0]
  refine HS.out.mono ?_
  rintro e w1 ⟨bm, ds, rfl, hx1, hlo, hM, hnd, hds⟩
  have HR : Hid (MapRet w (bigP W H l) (nbA eight) [(-1, -1)] (.returned (.map (some bm))) w1) := ⟨bm, ds, rfl, HX0.out.trans hx1, Nat.le_trans HX0.out.size hlo, hM, hnd, hds⟩
  clear hx1 hlo hM hnd hds hW0
  go_wp2
  go_ret
  exact HR.out
set_option maxHeartbeats 800000 in
theorem filled1_any (p bm : Nat) (ds : List (Int × Int)) (x y : Int) (w : World) (hx : -1000 ≤ x ∧ x ≤ 1000) (hy : -1000 ≤ y ∧ y ≤ 1000) (hp : w.cell? ⟨p, 0, none⟩ = some (.map (some bm))) (hM : MapS w Try.prog 90 bm (mapG ds)) :
    Calls Try.prog 212 #[.int .i64 x, .int .i64 y, .pointer (some ⟨p, 0, none⟩)] w fun e w' => e = .returned (.bool (!decide ((x, y) ∈ ds))) ∧ w.Ext w' := by
  have hl := hM.lookB hx hy
  clear hM
  generalize decide ((x, y) ∈ ds) = t at *
  go_enter Try.func212, Try.ntmps212
  go_wp2
  go_ret
  exact ⟨rfl, .refl _⟩
theorem enters_filled1 : Enters 212 := enters_of Try.func212 (by kernel_rfl) (by kernel_rfl)
set_option maxRecDepth 5000 in
set_option maxHeartbeats 1600000 in
theorem filled_any (b ab W H : Nat) (l : List Bool) (eight : Bool) (g : Nat → Nat → Bool) (hg : OutG W H l (!eight) g) (w : World) (hW1 : 1 ≤ W) (hH1 : 1 ≤ H) (hW : W ≤ 64) (hH : H ≤ 64) (hI : Img w b ab W H l) :
    Calls Try.prog 117 #[.pointer (some ⟨b, 0, none⟩), .bool eight] w (ImgRet w W H (mkl W H fun x y => !g x y)) := by
  have HOU := Lib.hid (outside_any b ab W H l (!eight) w hW hH hI)
  have HMD : Hid (∀ (w' : World) (p11 bm : Nat) (ds : List (Int × Int)), w'.cell? ⟨p11, 0, none⟩ = some (.map (some bm)) → MapS w' Try.prog 90 bm (mapG ds) → Hid (∀ q, q ∈ ds ↔ Rch (bigP W H l) (nbA (!eight)) [(-1, -1)] q) →
      Calls Try.prog 103 #[.int .i64 W, .int .i64 H, .func (.func 212) #[] #[.pointer (some ⟨p11, 0, none⟩)]] w' (ImgRet w' W H (mkl W H fun x y => !g x y))) := fun w' p11 bm ds hc hM hds =>
    made_any W H _ _ (fun x y => !g x y) w' hW hH enters_filled1 (fun w'' hx x y h1 h2 => by
      have e : (!decide (((x : Int), (y : Int)) ∈ ds)) = !g x y := by
        congr 1
        rw [Bool.eq_iff_iff, decide_eq_true_iff, hg.big hI.len hW1 hH1 h1 h2, hds.out]
      show Calls _ _ _ _ (fun e w'' => e = .returned (.bool (!g x y)) ∧ _)
      rw [← e]
      exact filled1_any p11 bm ds x y w'' (by omega) (by omega) (hx.cell hc) (hM.ext hx))
  have c0 := hI.c0
  have c1 := hI.c1
  clear hI hg
  generalize bigP W H l = R at *
  generalize (mkl W H fun x y => !g x y) = M at *
  go_enter Try.func117, Try.ntmps117
  go_wp2_with fail
  refine HOU.out.mono ?_
  rintro e w1 ⟨bm, ds, rfl, hx1, -, hM, -, hds⟩
  obtain ⟨w2, hw2⟩ : ∃ w2, w2 = w1.alloc (.cells #[.map (some bm)] 124) := ⟨_, rfl⟩
  have hx2 : w1.Ext w2 := by rw [hw2]; repeat (first | exact World.Ext.refl _ | exact ⟨_, rfl⟩ | assumption | refine World.Ext.over ?_ _ | refine World.Ext.drewN ?_ _ | refine World.Ext.drew ?_ | refine World.Ext.alloc ?_ _ | refine World.Ext.setCell ?_ (by simp) _)
  have c5 : w2.cell? ⟨w1.heap.size, 0, none⟩ = some (.map (some bm)) := by rw [hw2]; simp [go_sem]
  have e0 := (hx1.trans hx2).cell c0
  have e1 := (hx1.trans hx2).cell c1
  have HX2 := Lib.hid (hx1.trans hx2)
  have HM2 := Lib.hid (hM.ext hx2)
  have HDS := Lib.hid hds
  clear c0 c1 hx1 hx2 hM hds HOU
  go_wp2_with fail
  rw [← hw2]
  clear hw2
  refine wp_region_over_tail 9 (by kernel_rfl) (by kernel_rfl) ?_; simp only [List.take_succ_cons, List.take_zero, List.drop_succ_cons, List.drop_zero]; (repeat (go_big_quiet_step (fail))); refine wpQuiet_nil ?_; rintro _ ⟨x1, rfl⟩
  have HC := Lib.hid (HMD.out (w2.over x1) w1.heap.size bm ds ((show w2.Ext (w2.over x1) from ⟨x1, rfl⟩).cell c5) (HM2.out.ext ⟨x1, rfl⟩) HDS)
  have HX3 : Hid (w.Ext (w2.over x1)) := HX2.out.trans ⟨x1, rfl⟩
  generalize w2.over x1 = w3 at *
  clear e0 e1 c5 HM2 HX2
  go_wp2_with fail
  refine HC.out.mono ?_
  rintro e w4 ⟨b4, ab4, rfl, hx4, hi4, hl4, hl5⟩
  have HR : Hid (ImgRet w W H M (.returned (.pointer (some ⟨b4, 0, none⟩))) w4) := ⟨b4, ab4, rfl, HX3.out.trans hx4, hi4, Nat.le_trans HX3.out.size hl4, Nat.le_trans HX3.out.size hl5⟩
  clear hx4 hi4 hl4 hl5
  go_wp2
  go_ret
  exact HR.out
set_option maxHeartbeats 800000 in
theorem fillH1_any (p b ab W H : Nat) (l : List Bool) (eight : Bool) (g : Nat → Nat → Bool) (hg : OutG W H l (!eight) g) (w : World) (hW1 : 1 ≤ W) (hH1 : 1 ≤ H) (hW : W ≤ 64) (hH : H ≤ 64) (hp : w.cell? ⟨p, 0, none⟩ = some (.bool eight)) (hI : Img w b ab W H l) :
    Calls Try.prog 116 #[.pointer (some ⟨b, 0, none⟩), .pointer (some ⟨p, 0, none⟩)] w (DoRet w true W H (mkl W H fun x y => !g x y)) := by
  have HF := Lib.hid (filled_any b ab W H l eight g hg w hW1 hH1 hW hH hI)
  show Calls _ _ _ _ (ImgRet w W H (mkl W H fun x y => !g x y))
  clear hI hg
  generalize (mkl W H fun x y => !g x y) = M at *
  go_enter Try.func116, Try.ntmps116
  go_wp2_with fail
  refine HF.out.mono ?_
  rintro e w4 ⟨b4, ab4, rfl, hr⟩
  have HR := Lib.hid hr
  clear hr
  go_wp2
  go_ret
  exact ⟨b4, ab4, rfl, HR.out⟩
theorem enters_fillH1 : Enters 116 := enters_of Try.func116 (by kernel_rfl) (by kernel_rfl)
set_option maxRecDepth 5000 in
set_option maxHeartbeats 1600000 in
theorem implFill_any (a : Option Addr) (c : Nat) (ss : List ByteArray) (eight : Bool) (g : Nat → Nat → Bool) (hg : OutG (picW ss) ss.length (picL ss) (!eight) g) (w : World) (hb : PicBnd ss) (hm : RowS w a ss) :
    Calls Try.prog 24 #[.agg #[.slice a ss.length c], .bool eight] w (PicRet2 w (optRows (picOk ss) (picRows (picW ss) ss.length (mkl (picW ss) ss.length fun x y => !g x y))) (picOk ss)) := by
  obtain ⟨W0, hW0⟩ : ∃ W0, W0 = ((w.alloc (.cells #[.slice a ss.length c] 26)).alloc (.cells #[.bool eight] 4)).alloc (.cells #[.slice none 0 0] 26) := ⟨_, rfl⟩
  have hx0 : w.Ext W0 := by rw [hW0]; repeat (first | exact World.Ext.refl _ | exact ⟨_, rfl⟩ | assumption | refine World.Ext.over ?_ _ | refine World.Ext.drewN ?_ _ | refine World.Ext.drew ?_ | refine World.Ext.alloc ?_ _ | refine World.Ext.setCell ?_ (by simp) _)
  have d0 : W0.cell? ⟨w.heap.size, 0, none⟩ = some (.slice a ss.length c) := by rw [hW0]; simp [go_sem]
  have d1 : W0.cell? ⟨w.heap.size + 1, 0, none⟩ = some (.bool eight) := by rw [hW0]; simp [go_sem]
  have hone : One W0 (w.heap.size + 1 + 1) 26 (.slice none 0 0) := by rw [hW0]; exact One.new _ _ _ _ (by simp)
  have HWI : Hid (Calls Try.prog 115 #[.agg #[.slice a ss.length c], .func (.func 116) #[] #[.pointer (some ⟨w.heap.size + 1, 0, none⟩)]] W0 (PicRet2 W0 (optRows (picOk ss && true) (picRows (picW ss) ss.length (mkl (picW ss) ss.length fun x y => !g x y))) (picOk ss && true))) :=
    withImage_any a c _ _ ss true _ _ _ W0 hb.1 hb.2 (hm.ext hx0) enters_fillH1 (fun h _ => by obtain ⟨v1, v2, v3, v4, -, -⟩ := picOk_spec h; omega)
      (fun w' b ab h hx hI => by
        obtain ⟨v1, v2, v3, v4, -, -⟩ := picOk_spec h
        exact fillH1_any _ b ab _ _ _ eight g hg w' v3 v1 (by omega) (by omega) (hx.cell d1) hI)
  rw [Bool.and_true] at HWI
  have HX0 := Lib.hid hx0
  have HO := Lib.hid hone
  clear hb hm hx0 hone hg d1
  generalize optRows (picOk ss) (picRows (picW ss) ss.length (mkl (picW ss) ss.length fun x y => !g x y)) = R at *
  generalize picOk ss = ok at *
  go_enter Try.func24, Try.ntmps24
  go_wp2_with fail
  rw [← hW0]
  refine HWI.out.mono ?_
  rintro e w1 ⟨a1, c1, rfl, hx1, ho1⟩
  have hl0 : w.heap.size + 1 + 1 < W0.heap.size := HO.out.lt
  obtain ⟨r1, r2, r3, HR⟩ := Res.store (.slice a1 R.length c1) (HX0.out.trans hx1) (by omega) (HO.out.ext hx1) hl0 ho1
  clear hx1 ho1 hW0
  go_wp2
  exact bodyPost_ret (v := .tuple #[.agg #[.slice a1 R.length c1], .bool ok]) (by simp [results, Try.results24, go_sem, r3]) rfl ⟨a1, c1, rfl, HR.out.1, HR.out.2⟩
end Go.Proofs.Ytpdmfnndegcjjaa
