/- RebuildGrey: the program's side. -/
import Derived.Test.YtmmanehdmnkekaaOpA
import Derived.Test.YtmmanehdmnkekaaRunI
namespace Go.Proofs.Ytmmanehdmnkekaa
open Go Go.RowKit
def rebL (R : GT) : List Int := R.2.2.2.flatten.map fun z => R.1.getD z.toNat 0
def rebM (R : GT) : List (List Int) := grl (R.2.2.2.getD 0 []).length R.2.2.2.length (rebL R)
noncomputable def rebU (R : GT) : GT := gtR (R.2.2.2.getD 0 []).length R.2.2.2.length (rebL R)
noncomputable def rebOk (R : GT) : Bool := tableOk R.2.2.2 ((R.1.length : Int) - 1) && (tableOk (rebM R) 99 && (decide (R.1 = (rebU R).1) && (decide (R.2.1 = (rebU R).2.1) && (decide (R.2.2.1 = (rebU R).2.2.1) && decide (R.2.2.2 = (rebU R).2.2.2)))))
theorem tableOkG {m : List (List Int)} {most : Int} (h : tableOk m most = true) : m.flatten.length = m.length * (m.getD 0 []).length ∧ ∀ k, k < m.length * (m.getD 0 []).length → 0 ≤ m.flatten.getD k 0 ∧ m.flatten.getD k 0 ≤ most := by
  obtain ⟨h1, h2, h3, h4, h5, h6⟩ := tableOk_spec h
  refine ⟨by rw [flat_len _ m h5, Nat.mul_comm], fun k hk => ?_⟩
  have hy : k / (m.getD 0 []).length < m.length := by rw [Nat.div_lt_iff_lt_mul (by omega)]; exact hk
  have hx : k % (m.getD 0 []).length < (m.getD 0 []).length := Nat.mod_lt _ (by omega)
  have h := flat_at (m.getD 0 []).length m _ _ h5 hy hx
  rw [Nat.mul_comm, Nat.div_add_mod] at h
  rw [h]
  exact h6 _ _ hy (by rw [h5 _ hy]; exact hx)
theorem rebL_at {R : GT} {k : Nat} (hk : k < R.2.2.2.flatten.length) : (rebL R).getD k 0 = R.1.getD (R.2.2.2.flatten.getD k 0).toNat 0 := by
  unfold rebL
  rw [List.getD_eq_getElem?_getD, List.getElem?_map, List.getD_eq_getElem?_getD (l := R.2.2.2.flatten), List.getElem?_eq_getElem hk]
  rfl
theorem reb_bnd (R : GT) : MatBnd (optM (rebOk R) (rebM R)) ∧ offM (optM (rebOk R) (rebM R)) (optM (rebOk R) (rebM R)).length ≤ 1048576 := by
  cases hc : rebOk R
  · exact ⟨⟨by simp [optM], fun r => by simp [optM]⟩, by simp [optM, offM]⟩
  · unfold rebOk at hc
    rw [Bool.and_eq_true] at hc
    obtain ⟨v1, v2, v3, v4, -, -⟩ := tableOk_spec hc.1
    exact optM_bnd true _ _ _ (by omega) (by omega)
set_option maxRecDepth 5000 in
set_option maxHeartbeats 1600000 in
theorem reb1_any (p pn : Nat) (a1 : Option Addr) (c1 : Nat) (L : List Int) (W H j : Nat) (l : List Int) (w : World) (hW : W ≤ 64) (hH : H ≤ 64) (hj : j < H * W) (hp : w.cell? ⟨p, 0, none⟩ = some (.slice a1 L.length c1)) (hg : GrAt w pn W H l)
    (hL : RowI w a1 L) (h0 : 0 ≤ l.getD j 0) (h1 : l.getD j 0 < (L.length : Int)) :
    Calls Try.prog 79 #[.agg #[.int .i64 ((j % W : Nat) : Int), .int .i64 ((j / W : Nat) : Int)], .pointer (some ⟨p, 0, none⟩), .pointer (some ⟨pn, 0, none⟩)] w fun e w' => e = .returned (.int .i64 (L.getD (l.getD j 0).toNat 0)) ∧ w.Ext w' := by
  obtain ⟨W0, hW0⟩ : ∃ W0, W0 = w.alloc (.cells #[.int .i64 ((j % W : Nat) : Int), .int .i64 ((j / W : Nat) : Int)] 58) := ⟨_, rfl⟩
  have hx0 : w.Ext W0 := by rw [hW0]; repeat (first | exact World.Ext.refl _ | exact ⟨_, rfl⟩ | assumption | refine World.Ext.over ?_ _ | refine World.Ext.drewN ?_ _ | refine World.Ext.drew ?_ | refine World.Ext.alloc ?_ _ | refine World.Ext.setCell ?_ (by simp) _)
  have d0 : W0.cell? ⟨w.heap.size, 0, none⟩ = some (.int .i64 ((j % W : Nat) : Int)) := by rw [hW0]; simp [go_sem]
  have d1 : W0.cell? ⟨w.heap.size, 1, none⟩ = some (.int .i64 ((j / W : Nat) : Int)) := by rw [hW0]; simp [go_sem]
  have hW1 : 0 < W := Nat.pos_of_ne_zero fun e => by rw [e] at hj; simp at hj
  have hjW : j % W < W := Nat.mod_lt _ hW1
  have hjH : j / W < H := by rw [Nat.div_lt_iff_lt_mul hW1]; exact hj
  have hjE : j / W * W + j % W = j := by rw [Nat.mul_comm]; exact Nat.div_add_mod _ _
  have HAT : Hid (∀ x1, Calls Try.prog 80 #[.pointer (some ⟨pn, 0, none⟩), .agg #[.int .i64 ((j % W : Nat) : Int), .int .i64 ((j / W : Nat) : Int)]] (W0.over x1) fun e w'' => e = .returned (.int .i64 (l.getD j 0)) ∧ (W0.over x1).Ext w'') := fun x1 => by
    have h := (hg.ext (hx0.trans ⟨x1, rfl⟩ : w.Ext (W0.over x1))).at hW hH hjW hjH
    rw [hjE] at h
    exact h
  obtain ⟨q, hq⟩ : ∃ q : Nat, l.getD j 0 = (q : Int) := ⟨(l.getD j 0).toNat, by omega⟩
  rw [hq] at h0 h1 HAT
  rw [hq, Int.toNat_natCast]
  obtain ⟨b1, o1, rfl, dl⟩ := hL q (by omega)
  have e1 := hx0.cell hp
  have e2 := hx0.cell dl
  have HX0 := Lib.hid hx0
  clear hg hL hx0 hp dl hq hjW hjH hjE hj
  generalize L.getD q 0 = z at *
  generalize j % W = x at *
  generalize j / W = y at *
  generalize L.length = n at *
  go_enter Try.func79, Try.ntmps79
  go_wp2_with fail
  rw [← hW0]
  clear hW0
  refine wp_region_over_lit (by kernel_rfl) (by kernel_rfl) ?_; (repeat (go_big_quiet_step ((go_at_call 80; exact Calls.over_of (HAT.out _))))); refine wpQuiet_nil ?_; rintro _ ⟨x1, rfl⟩
  have HX : Hid (w.Ext (W0.over x1)) := HX0.out.trans ⟨x1, rfl⟩
  clear d0 d1 e1 e2
  go_wp2
  go_ret
  exact ⟨rfl, HX.out⟩
theorem enters_reb1 : Enters 79 := enters_of Try.func79 (by kernel_rfl) (by kernel_rfl)
theorem rebM_facts {R : GT} (hW : 0 < (R.2.2.2.getD 0 []).length) (hH : 0 < R.2.2.2.length) (hl : R.2.2.2.flatten.length = R.2.2.2.length * (R.2.2.2.getD 0 []).length) :
    (rebM R).length = R.2.2.2.length ∧ ((rebM R).getD 0 []).length = (R.2.2.2.getD 0 []).length ∧ (rebM R).flatten = rebL R := by
  have hr : (rebL R).length = R.2.2.2.length * (R.2.2.2.getD 0 []).length := by unfold rebL; rw [List.length_map]; exact hl
  exact ⟨grl_len _ _ _, grl_row hH, grl_flattenO hW hr⟩
theorem rebU_gtO {R : GT} (hok : tableOk (rebM R) 99 = true) (h1 : (rebM R).length = R.2.2.2.length) (h2 : ((rebM R).getD 0 []).length = (R.2.2.2.getD 0 []).length) (h3 : (rebM R).flatten = rebL R) : gtO (rebM R) = rebU R := by
  unfold gtO rebU
  rw [if_pos hok, h1, h2, h3]
theorem rebOk_mat {R : GT} {t : Bool} (hok : tableOk R.2.2.2 ((R.1.length : Int) - 1) = t) (h : t = false) : rebOk R = false := by
  unfold rebOk
  rw [hok, h, Bool.false_and]
theorem rebOk_mat2 {R : GT} (h : tableOk (rebM R) 99 = false) : rebOk R = false := by
  unfold rebOk
  rw [h, Bool.false_and, Bool.and_false]
theorem rebOk_same {R : GT} {t1 t2 t3 t4 : Bool} (h1 : tableOk R.2.2.2 ((R.1.length : Int) - 1) = true) (h2 : tableOk (rebM R) 99 = true) (e1 : decide (R.1 = (rebU R).1) = t1) (e2 : decide (R.2.1 = (rebU R).2.1) = t2) (e3 : decide (R.2.2.1 = (rebU R).2.2.1) = t3) (e4 : decide (R.2.2.2 = (rebU R).2.2.2) = t4) :
    rebOk R = (t1 && (t2 && (t3 && t4))) := by
  unfold rebOk
  rw [h1, h2, e1, e2, e3, e4, Bool.true_and, Bool.true_and]
set_option maxRecDepth 5000 in
set_option maxHeartbeats 6400000 in
theorem implRebuildGrey_any (a1 a2 a3 a4 : Option Addr) (c1 c2 c3 c4 : Nat) (A : Nat → Option Addr) (C : Nat → Nat) (R : GT) (w : World) (hb : GtBnd R) (hm : RowG w a1 a2 a3 a4 A C R) :
    Calls Try.prog 15 #[gtV a1 a2 a3 a4 c1 c2 c3 c4 R] w (GreyRet2 w (optM (rebOk R) (rebM R)) (rebOk R)) := by
  obtain ⟨W0, hW0⟩ : ∃ W0, W0 = (w.alloc (.cells #[.slice a1 R.1.length c1, .slice a2 R.2.1.length c2, .slice a3 R.2.2.1.length c3, .slice a4 R.2.2.2.length c4] 30)).alloc (.cells #[.slice none 0 0] 26) := ⟨_, rfl⟩
  have hx0 : w.Ext W0 := by rw [hW0]; repeat (first | exact World.Ext.refl _ | exact ⟨_, rfl⟩ | assumption | refine World.Ext.over ?_ _ | refine World.Ext.drewN ?_ _ | refine World.Ext.drew ?_ | refine World.Ext.alloc ?_ _ | refine World.Ext.setCell ?_ (by simp) _)
  have hq0 : Qua W0 w.heap.size 30 (.slice a1 R.1.length c1) (.slice a2 R.2.1.length c2) (.slice a3 R.2.2.1.length c3) (.slice a4 R.2.2.2.length c4) := by rw [hW0]; exact (Qua.new _ _ _ _ _ _ _ rfl).ext (by repeat (first | exact World.Ext.refl _ | exact ⟨_, rfl⟩ | assumption | refine World.Ext.over ?_ _ | refine World.Ext.drewN ?_ _ | refine World.Ext.drew ?_ | refine World.Ext.alloc ?_ _ | refine World.Ext.setCell ?_ (by simp) _))
  have hone : One W0 (w.heap.size + 1) 26 (.slice none 0 0) := by rw [hW0]; exact One.new _ _ _ _ (by simp)
  obtain ⟨g1, g2, g3, g4⟩ := hm.ext hx0
  obtain ⟨b1, b2, b3, b4, b5⟩ := hb
  have HRO : Hid (Calls Try.prog 77 #[.slice a4 R.2.2.2.length c4, .int .i64 ((R.1.length : Int) - 1)] W0 fun e w' => e = .returned (.bool (tableOk R.2.2.2 ((R.1.length : Int) - 1))) ∧ W0.Ext w') := rowsOk_any a4 c4 A C R.2.2.2 _ W0 b4 b5 g4 _ rfl
  have HX0 := Lib.hid hx0
  have HO := Lib.hid hone
  have HQ0 := Lib.hid hq0
  have HLL : Hid (R.1.length ≤ 1048576) := b1
  have hl0 : w.heap.size + 1 < W0.heap.size := hone.lt
  cases hok : tableOk R.2.2.2 ((R.1.length : Int) - 1)
  · rw [hok] at HRO
    have hrb := rebOk_mat hok rfl
    rw [hrb]
    clear hm hx0 hone hok g1 g2 g3 g4 hrb b1 b2 b3 b4 b5
    show Calls _ _ _ _ (GreyRet2 w [] false)
    unfold gtV
    have k0 := hq0.cell0
    have k3 := hq0.cell3
    have lk := hq0.lt
    clear hq0
    have hls : R.1.length ≤ 4611686018427387904 := by have := HLL.out; omega
    generalize R.1.length = n1 at *
    generalize R.2.1.length = n2 at *
    generalize R.2.2.1.length = n3 at *
    generalize R.2.2.2.length = n4 at *
    go_enter Try.func15, Try.ntmps15
    go_wp2_with fail
    rw [← hW0]
    clear hW0
    go_wp2_with fail
    refine HRO.out.mono ?_
    rintro e w1 ⟨rfl, hx1⟩
    clear k0 k3 lk
    obtain ⟨r1, r2, r3, HR⟩ := Res.storeM (lo := w.heap.size + 2) (.slice none 0 0) (HX0.out.trans hx1) (by omega) (HO.out.ext hx1) (by omega) (OwnMat.none _ _ _ none)
    clear hx1
    go_wp2
    exact bodyPost_ret (v := .tuple #[.agg #[.slice none 0 0], .bool false]) (by simp [results, Try.results15, go_sem, r3]) rfl (OpRet.no HR.out.1)
  · rw [hok] at HRO
    obtain ⟨v1, v2, v3, v4, v5, v6⟩ := tableOk_spec hok
    obtain ⟨f1, f2⟩ := tableOkG hok
    obtain ⟨m1, m2, m3⟩ := rebM_facts v3 v1 f1
    have HRM : Hid (∀ (w' : World) (pn : Nat), W0.Ext w' → w'.cell? ⟨pn, 0, none⟩ = some (.slice a4 R.2.2.2.length c4) →
        Calls Try.prog 78 #[.pointer (some ⟨pn, 0, none⟩), .func (.func 79) #[] #[.pointer (some ⟨w.heap.size, 0, none⟩), .pointer (some ⟨pn, 0, none⟩)]] w' (GreyRet w' (rebM R))) := fun w' pn hx hc => by
      have hg : GrAt w' pn (R.2.2.2.getD 0 []).length R.2.2.2.length R.2.2.2.flatten := ⟨a4, c4, A, C, R.2.2.2, hc, g4.ext hx, rfl, v5, rfl⟩
      refine hg.remadeF v1 (by omega) (by omega) _ _ _ enters_reb1 fun w'' hx2 j hj => ?_
      rw [rebL_at (by rw [f1]; exact hj)]
      obtain ⟨q1, q2⟩ := f2 j hj
      exact reb1_any w.heap.size pn a1 c1 R.1 _ _ j _ w'' (by omega) (by omega) hj (hx2.cell (hx.cell hq0.cell0)) (hg.ext hx2) (RowI.ext g1 (hx.trans hx2)) q1 (by omega)
    have HVG : Hid (∀ (w' : World) (a : Option Addr) (c : Nat) (A : Nat → Option Addr) (C : Nat → Nat), MatAt w' a A C (rebM R) → Calls Try.prog 75 #[.agg #[.slice a R.2.2.2.length c]] w' fun e w'' => e = .returned (.bool (tableOk (rebM R) 99)) ∧ w'.Ext w'') := fun w' a c A C h => by
      have h' := validGrey_any a c A C (rebM R) w' (by omega) (fun r => by
        by_cases hr : r < R.2.2.2.length
        · show ((grl _ _ _).getD r []).length ≤ _
          rw [grl_row hr]; omega
        · rw [List.getD_eq_getElem?_getD, List.getElem?_eq_none (by rw [m1]; omega)]; simp) h _ rfl
      rw [m1] at h'
      exact h'
    have HM1 := Lib.hid m1
    have hls : R.1.length ≤ 4611686018427387904 := by have := HLL.out; omega
    cases hok2 : tableOk (rebM R) 99
    · rw [hok2] at HVG
      have hrb := rebOk_mat2 hok2
      rw [hrb]
      clear hm hx0 hone hok hok2 g1 g2 g3 g4 hrb b1 b2 b3 b4 b5 v1 v2 v3 v4 v5 v6 f1 f2 m1 m2 m3
      show Calls _ _ _ _ (GreyRet2 w [] false)
      unfold gtV
      have k0 := hq0.cell0
      have k3 := hq0.cell3
      have lk := hq0.lt
      clear hq0
      generalize rebM R = M at *
      generalize R.1.length = n1 at *
      generalize R.2.1.length = n2 at *
      generalize R.2.2.1.length = n3 at *
      generalize R.2.2.2.length = n4 at *
      go_enter Try.func15, Try.ntmps15
      go_wp2_with fail
      rw [← hW0]
      clear hW0
      go_wp2_with fail
      refine HRO.out.mono ?_
      rintro e w1 ⟨rfl, hx1⟩
      clear k0 k3 lk
      have k3 := (HQ0.out.ext hx1).cell3
      have lk := (HQ0.out.ext hx1).lt
      obtain ⟨W2, hW2⟩ : ∃ W2, W2 = w1.alloc (.cells #[.slice a4 n4 c4] 26) := ⟨_, rfl⟩
      have hx2 : w1.Ext W2 := by rw [hW2]; repeat (first | exact World.Ext.refl _ | exact ⟨_, rfl⟩ | assumption | refine World.Ext.over ?_ _ | refine World.Ext.drewN ?_ _ | refine World.Ext.drew ?_ | refine World.Ext.alloc ?_ _ | refine World.Ext.setCell ?_ (by simp) _)
      have d2 : W2.cell? ⟨w1.heap.size, 0, none⟩ = some (.slice a4 n4 c4) := by rw [hW2]; simp [go_sem]
      have HX2 := Lib.hid (hx1.trans hx2)
      have HC2 := Lib.hid (HRM.out W2 w1.heap.size HX2.out d2)
      clear hx1 hx2 d2
      go_wp2_with fail
      rw [← hW2]
      clear hW2 k3 lk
      refine HC2.out.mono ?_
      rintro e w3 ⟨a5, c5, A5, C5, rfl, hx3, ho3⟩
      rw [HM1.out]
      have HX3 := Lib.hid (HX2.out.trans hx3)
      obtain ⟨W4, hW4⟩ : ∃ W4, W4 = w3.alloc (.cells #[.slice a5 n4 c5] 26) := ⟨_, rfl⟩
      have hx4 : w3.Ext W4 := by rw [hW4]; repeat (first | exact World.Ext.refl _ | exact ⟨_, rfl⟩ | assumption | refine World.Ext.over ?_ _ | refine World.Ext.drewN ?_ _ | refine World.Ext.drew ?_ | refine World.Ext.alloc ?_ _ | refine World.Ext.setCell ?_ (by simp) _)
      have HC4 := Lib.hid (HVG.out W4 a5 c5 A5 C5 (ho3.mat.ext hx4))
      have HX4 := Lib.hid (HX3.out.trans hx4)
      clear hx3 hx4 ho3 HC2 HX2 HRM HVG HX3
      go_wp2_with fail
      rw [← hW4]
      clear hW4
      refine HC4.out.mono ?_
      rintro e w5 ⟨rfl, hx5⟩
      obtain ⟨r1, r2, r3, HR⟩ := Res.storeM (lo := w.heap.size + 2) (.slice none 0 0) (HX0.out.trans (HX4.out.trans hx5)) (by omega) (HO.out.ext (HX4.out.trans hx5)) (by omega) (OwnMat.none _ _ _ none)
      clear hx5
      go_wp2
      exact bodyPost_ret (v := .tuple #[.agg #[.slice none 0 0], .bool false]) (by simp [results, Try.results15, go_sem, r3]) rfl (OpRet.no HR.out.1)
    · rw [hok2] at HVG
      have hgl : GrL (R.2.2.2.getD 0 []).length R.2.2.2.length (rebL R) := by
        have h := grL_table hok2
        rw [m1, m2, m3] at h
        exact h
      have HGT : Hid (∀ (w' : World) (p : Nat) (a : Option Addr) (c : Nat) (A : Nat → Option Addr) (C : Nat → Nat), w'.cell? ⟨p, 0, none⟩ = some (.slice a R.2.2.2.length c) → MatAt w' a A C (rebM R) → Calls Try.prog 76 #[.pointer (some ⟨p, 0, none⟩)] w' (TreeRet w' (rebU R))) := fun w' p a c A C hc hmm => by
        have hc' : w'.cell? ⟨p, 0, none⟩ = some (.slice a (rebM R).length c) := by rw [m1]; exact hc
        have hg := GrAt.of hok2 hc' hmm
        rw [m1, m2, m3] at hg
        exact greyTree_any p _ _ _ w' v3 v1 v4 v2 hg hgl
      have hub := gt_bnd (rebM R)
      rw [rebU_gtO hok2 m1 m2 m3] at hub
      obtain ⟨⟨u1, u2, u3, u4, u5⟩, -⟩ := hub
      have HE1 : Hid (∀ (w' : World) (x : Option Addr) (y : Nat), W0.Ext w' → RowI w' x (rebU R).1 → Calls Try.prog 81 #[.slice a1 R.1.length c1, .slice x (rebU R).1.length y] w' fun e w'' => e = .returned (.bool (decide (R.1 = (rebU R).1))) ∧ w'.Ext w'') := fun w' x y hx h => equalI_any a1 x c1 y _ _ w' (by unfold maxLen; omega) (by unfold maxLen; omega) (RowI.ext g1 hx) h
      have HE2 : Hid (∀ (w' : World) (x : Option Addr) (y : Nat), W0.Ext w' → RowI w' x (rebU R).2.1 → Calls Try.prog 81 #[.slice a2 R.2.1.length c2, .slice x (rebU R).2.1.length y] w' fun e w'' => e = .returned (.bool (decide (R.2.1 = (rebU R).2.1))) ∧ w'.Ext w'') := fun w' x y hx h => equalI_any a2 x c2 y _ _ w' (by unfold maxLen; omega) (by unfold maxLen; omega) (RowI.ext g2 hx) h
      have HE3 : Hid (∀ (w' : World) (x : Option Addr) (y : Nat), W0.Ext w' → RowI w' x (rebU R).2.2.1 → Calls Try.prog 81 #[.slice a3 R.2.2.1.length c3, .slice x (rebU R).2.2.1.length y] w' fun e w'' => e = .returned (.bool (decide (R.2.2.1 = (rebU R).2.2.1))) ∧ w'.Ext w'') := fun w' x y hx h => equalI_any a3 x c3 y _ _ w' (by unfold maxLen; omega) (by unfold maxLen; omega) (RowI.ext g3 hx) h
      have HE4 : Hid (∀ (w' : World) (x : Option Addr) (y : Nat) (A' : Nat → Option Addr) (C' : Nat → Nat), W0.Ext w' → MatAt w' x A' C' (rebU R).2.2.2 → Calls Try.prog 82 #[.slice a4 R.2.2.2.length c4, .slice x (rebU R).2.2.2.length y] w' fun e w'' => e = .returned (.bool (decide (R.2.2.2 = (rebU R).2.2.2))) ∧ w'.Ext w'') := fun w' x y A' C' hx h => sameLists_any a4 x c4 y A A' C C' _ _ w' (by unfold maxLen; omega) (by unfold maxLen; omega) (fun r => by have := b5 r; unfold maxLen; omega) (fun r => by have := u5 r; unfold maxLen; omega) (g4.ext hx) h
      have hs := fun t1 t2 t3 t4 e1 e2 e3 e4 => rebOk_same (R := R) (t1 := t1) (t2 := t2) (t3 := t3) (t4 := t4) hok hok2 e1 e2 e3 e4
      have HSS := Lib.hid hs
      clear hm hx0 hone hok hok2 g1 g2 g3 g4 b1 b2 b3 b4 b5 v1 v2 v3 v4 v5 v6 f1 f2 m1 m2 m3 hs hgl u1 u2 u3 u4 u5
      unfold gtV
      have k0 := hq0.cell0
      have k3 := hq0.cell3
      have lk := hq0.lt
      clear hq0
      cases e1 : decide (R.1 = (rebU R).1)
      · -- the levels differ
        have hrb : rebOk R = false := HSS.out false _ _ _ e1 rfl rfl rfl
        rw [hrb]
        rw [e1] at HE1
        clear hrb HSS e1
        show Calls _ _ _ _ (GreyRet2 w [] false)
        generalize rebU R = U at *
        generalize rebM R = M at *
        generalize R.1.length = n1 at *
        generalize R.2.1.length = n2 at *
        generalize R.2.2.1.length = n3 at *
        generalize R.2.2.2.length = n4 at *
        go_enter Try.func15, Try.ntmps15
        go_wp2_with fail
        rw [← hW0]
        clear hW0
        go_wp2_with fail
        refine HRO.out.mono ?_
        rintro e w1 ⟨rfl, hx1⟩
        clear k0 k3 lk
        have k3 := (HQ0.out.ext hx1).cell3
        have lk := (HQ0.out.ext hx1).lt
        have HL1 : Hid (w.heap.size + 1 < w1.heap.size) := Nat.lt_of_lt_of_le hl0 hx1.size
        obtain ⟨W2, hW2⟩ : ∃ W2, W2 = w1.alloc (.cells #[.slice a4 n4 c4] 26) := ⟨_, rfl⟩
        have hx2 : w1.Ext W2 := by rw [hW2]; repeat (first | exact World.Ext.refl _ | exact ⟨_, rfl⟩ | assumption | refine World.Ext.over ?_ _ | refine World.Ext.drewN ?_ _ | refine World.Ext.drew ?_ | refine World.Ext.alloc ?_ _ | refine World.Ext.setCell ?_ (by simp) _)
        have hz2 : w1.heap.size ≤ W2.heap.size := hx2.size
        have d2 : W2.cell? ⟨w1.heap.size, 0, none⟩ = some (.slice a4 n4 c4) := by rw [hW2]; simp [go_sem]
        have HX2 := Lib.hid (hx1.trans hx2)
        have HC2 := Lib.hid (HRM.out W2 w1.heap.size HX2.out d2)
        clear hx1 hx2 d2
        go_wp2_with fail
        rw [← hW2]
        clear hW2 k3 lk
        refine HC2.out.mono ?_
        rintro e w3 ⟨a5, c5, A5, C5, rfl, hx3, ho3⟩
        rw [HM1.out]
        have HX3 := Lib.hid (HX2.out.trans hx3)
        obtain ⟨W4, hW4⟩ : ∃ W4, W4 = w3.alloc (.cells #[.slice a5 n4 c5] 26) := ⟨_, rfl⟩
        have hx4 : w3.Ext W4 := by rw [hW4]; repeat (first | exact World.Ext.refl _ | exact ⟨_, rfl⟩ | assumption | refine World.Ext.over ?_ _ | refine World.Ext.drewN ?_ _ | refine World.Ext.drew ?_ | refine World.Ext.alloc ?_ _ | refine World.Ext.setCell ?_ (by simp) _)
        have HC4 := Lib.hid (HVG.out W4 a5 c5 A5 C5 (ho3.mat.ext hx4))
        have HX4 := Lib.hid (HX3.out.trans hx4)
        have HB4 : Hid (OwnMat w1.heap.size w3.heap.size W4 a5 A5 C5 M) := (ho3.mono hz2 (Nat.le_refl _)).ext hx4
        have HR4 : Hid (One W4 w3.heap.size 26 (.slice a5 n4 c5)) := by rw [hW4]; exact One.new _ _ _ _ rfl
        have hz4 : w3.heap.size ≤ W4.heap.size := hx4.size
        clear hx3 hx4 ho3 HC2 HX2 HRM HVG HX3
        go_wp2_with fail
        rw [← hW4]
        clear hW4
        refine HC4.out.mono ?_
        rintro e w5 ⟨rfl, hx5⟩
        have HX5 := Lib.hid (HX4.out.trans hx5)
        have HR5 := Lib.hid (HR4.out.ext hx5)
        have HB5 : Hid (OwnMat w1.heap.size w5.heap.size w5 a5 A5 C5 M) := (HB4.out.ext hx5).mono (Nat.le_refl _) (Nat.le_trans hz4 hx5.size)
        have HC5 := Lib.hid (HGT.out w5 w3.heap.size a5 c5 A5 C5 HR5.out.cell HB5.out.mat)
        clear hx5 HC4 HX4 HB4 HR4 hz2 hz4 HGT
        go_wp2_with fail
        refine HC5.out.mono ?_
        rintro e w51 ⟨g1, g2, g3, g4, d1, d2, d3, d4, A6, C6, rfl, hx51, ho6⟩
        unfold gtV
        obtain ⟨w6, hw6⟩ : ∃ w6, w6 = w51.alloc (.cells #[.slice g1 U.1.length d1, .slice g2 U.2.1.length d2, .slice g3 U.2.2.1.length d3, .slice g4 U.2.2.2.length d4] 30) := ⟨_, rfl⟩
        have hx6 : w5.Ext w6 := by rw [hw6]; exact hx51.trans (by repeat (first | exact World.Ext.refl _ | exact ⟨_, rfl⟩ | assumption | refine World.Ext.over ?_ _ | refine World.Ext.drewN ?_ _ | refine World.Ext.drew ?_ | refine World.Ext.alloc ?_ _ | refine World.Ext.setCell ?_ (by simp) _))
        have HP6 : Hid (Qua w6 w51.heap.size 30 (.slice g1 U.1.length d1) (.slice g2 U.2.1.length d2) (.slice g3 U.2.2.1.length d3) (.slice g4 U.2.2.2.length d4)) := by rw [hw6]; exact Qua.new _ _ _ _ _ _ _ rfl
        have HG6 : Hid (RowG w6 g1 g2 g3 g4 A6 C6 U) := by rw [hw6]; exact ho6.row.ext (by repeat (first | exact World.Ext.refl _ | exact ⟨_, rfl⟩ | assumption | refine World.Ext.over ?_ _ | refine World.Ext.drewN ?_ _ | refine World.Ext.drew ?_ | refine World.Ext.alloc ?_ _ | refine World.Ext.setCell ?_ (by simp) _))
        have HX6 := Lib.hid (HX5.out.trans hx6)
        have HR6 := Lib.hid (HR5.out.ext hx6)
        have HB6 : Hid (OwnMat w1.heap.size w6.heap.size w6 a5 A5 C5 M) := (HB5.out.ext hx6).mono (Nat.le_refl _) hx6.size
        have x0 := (HQ0.out.ext (HX5.out.trans hx51)).cell0
        have lx := (HQ0.out.ext (HX5.out.trans hx51)).lt
        clear hx51 ho6 hx6 HC5 HR5 HB5 HX5
        go_upto_region 8 with fail
        rw [← hw6]
        clear hw6 x0 lx
        have x0 := (HQ0.out.ext HX6.out).cell0
        have x1 := (HQ0.out.ext HX6.out).cell1
        have x2 := (HQ0.out.ext HX6.out).cell2
        have x3 := (HQ0.out.ext HX6.out).cell3
        have lx := (HQ0.out.ext HX6.out).lt
        have y0 := HP6.out.cell0
        have y1 := HP6.out.cell1
        have y2 := HP6.out.cell2
        have y3 := HP6.out.cell3
        have ly := HP6.out.lt
        go_wp2_with fail
        refine (HE1.out w6 g1 d1 HX6.out HG6.out.1).mono ?_
        rintro e w7 ⟨rfl, hx7⟩
        have HX7 := Lib.hid (HX6.out.trans hx7)
        have HG7 := Lib.hid (HG6.out.ext hx7)
        have HP7 := Lib.hid (HP6.out.ext hx7)
        have HR7 := Lib.hid (HR6.out.ext hx7)
        have HB7 := Lib.hid ((HB6.out.ext hx7).mono (Nat.le_refl _) hx7.size)
        clear hx7 x0 x1 x2 x3 y0 y1 y2 y3 lx ly HG6 HP6 HR6 HB6
        obtain ⟨r1, r2, r3, HR⟩ := Res.storeM (lo := w.heap.size + 2) (.slice none 0 0) (HX0.out.trans HX7.out) (by omega) (HO.out.ext HX7.out) (by omega) (OwnMat.none _ _ _ none)
        go_wp2
        exact bodyPost_ret (v := .tuple #[.agg #[.slice none 0 0], .bool false]) (by simp [results, Try.results15, go_sem, r3]) rfl (OpRet.no HR.out.1)
      · cases e2 : decide (R.2.1 = (rebU R).2.1)
        · skip
          have hrb : rebOk R = false := HSS.out true false _ _ e1 e2 rfl rfl
          rw [hrb]
          rw [e1] at HE1
          rw [e2] at HE2
          clear hrb HSS e1 e2
          show Calls _ _ _ _ (GreyRet2 w [] false)
          generalize rebU R = U at *
          generalize rebM R = M at *
          generalize R.1.length = n1 at *
          generalize R.2.1.length = n2 at *
          generalize R.2.2.1.length = n3 at *
          generalize R.2.2.2.length = n4 at *
          go_enter Try.func15, Try.ntmps15
          go_wp2_with fail
          rw [← hW0]
          clear hW0
          go_wp2_with fail
          refine HRO.out.mono ?_
          rintro e w1 ⟨rfl, hx1⟩
          clear k0 k3 lk
          have k3 := (HQ0.out.ext hx1).cell3
          have lk := (HQ0.out.ext hx1).lt
          have HL1 : Hid (w.heap.size + 1 < w1.heap.size) := Nat.lt_of_lt_of_le hl0 hx1.size
          obtain ⟨W2, hW2⟩ : ∃ W2, W2 = w1.alloc (.cells #[.slice a4 n4 c4] 26) := ⟨_, rfl⟩
          have hx2 : w1.Ext W2 := by rw [hW2]; repeat (first | exact World.Ext.refl _ | exact ⟨_, rfl⟩ | assumption | refine World.Ext.over ?_ _ | refine World.Ext.drewN ?_ _ | refine World.Ext.drew ?_ | refine World.Ext.alloc ?_ _ | refine World.Ext.setCell ?_ (by simp) _)
          have hz2 : w1.heap.size ≤ W2.heap.size := hx2.size
          have d2 : W2.cell? ⟨w1.heap.size, 0, none⟩ = some (.slice a4 n4 c4) := by rw [hW2]; simp [go_sem]
          have HX2 := Lib.hid (hx1.trans hx2)
          have HC2 := Lib.hid (HRM.out W2 w1.heap.size HX2.out d2)
          clear hx1 hx2 d2
          go_wp2_with fail
          rw [← hW2]
          clear hW2 k3 lk
          refine HC2.out.mono ?_
          rintro e w3 ⟨a5, c5, A5, C5, rfl, hx3, ho3⟩
          rw [HM1.out]
          have HX3 := Lib.hid (HX2.out.trans hx3)
          obtain ⟨W4, hW4⟩ : ∃ W4, W4 = w3.alloc (.cells #[.slice a5 n4 c5] 26) := ⟨_, rfl⟩
          have hx4 : w3.Ext W4 := by rw [hW4]; repeat (first | exact World.Ext.refl _ | exact ⟨_, rfl⟩ | assumption | refine World.Ext.over ?_ _ | refine World.Ext.drewN ?_ _ | refine World.Ext.drew ?_ | refine World.Ext.alloc ?_ _ | refine World.Ext.setCell ?_ (by simp) _)
          have HC4 := Lib.hid (HVG.out W4 a5 c5 A5 C5 (ho3.mat.ext hx4))
          have HX4 := Lib.hid (HX3.out.trans hx4)
          have HB4 : Hid (OwnMat w1.heap.size w3.heap.size W4 a5 A5 C5 M) := (ho3.mono hz2 (Nat.le_refl _)).ext hx4
          have HR4 : Hid (One W4 w3.heap.size 26 (.slice a5 n4 c5)) := by rw [hW4]; exact One.new _ _ _ _ rfl
          have hz4 : w3.heap.size ≤ W4.heap.size := hx4.size
          clear hx3 hx4 ho3 HC2 HX2 HRM HVG HX3
          go_wp2_with fail
          rw [← hW4]
          clear hW4
          refine HC4.out.mono ?_
          rintro e w5 ⟨rfl, hx5⟩
          have HX5 := Lib.hid (HX4.out.trans hx5)
          have HR5 := Lib.hid (HR4.out.ext hx5)
          have HB5 : Hid (OwnMat w1.heap.size w5.heap.size w5 a5 A5 C5 M) := (HB4.out.ext hx5).mono (Nat.le_refl _) (Nat.le_trans hz4 hx5.size)
          have HC5 := Lib.hid (HGT.out w5 w3.heap.size a5 c5 A5 C5 HR5.out.cell HB5.out.mat)
          clear hx5 HC4 HX4 HB4 HR4 hz2 hz4 HGT
          go_wp2_with fail
          refine HC5.out.mono ?_
          rintro e w51 ⟨g1, g2, g3, g4, d1, d2, d3, d4, A6, C6, rfl, hx51, ho6⟩
          unfold gtV
          obtain ⟨w6, hw6⟩ : ∃ w6, w6 = w51.alloc (.cells #[.slice g1 U.1.length d1, .slice g2 U.2.1.length d2, .slice g3 U.2.2.1.length d3, .slice g4 U.2.2.2.length d4] 30) := ⟨_, rfl⟩
          have hx6 : w5.Ext w6 := by rw [hw6]; exact hx51.trans (by repeat (first | exact World.Ext.refl _ | exact ⟨_, rfl⟩ | assumption | refine World.Ext.over ?_ _ | refine World.Ext.drewN ?_ _ | refine World.Ext.drew ?_ | refine World.Ext.alloc ?_ _ | refine World.Ext.setCell ?_ (by simp) _))
          have HP6 : Hid (Qua w6 w51.heap.size 30 (.slice g1 U.1.length d1) (.slice g2 U.2.1.length d2) (.slice g3 U.2.2.1.length d3) (.slice g4 U.2.2.2.length d4)) := by rw [hw6]; exact Qua.new _ _ _ _ _ _ _ rfl
          have HG6 : Hid (RowG w6 g1 g2 g3 g4 A6 C6 U) := by rw [hw6]; exact ho6.row.ext (by repeat (first | exact World.Ext.refl _ | exact ⟨_, rfl⟩ | assumption | refine World.Ext.over ?_ _ | refine World.Ext.drewN ?_ _ | refine World.Ext.drew ?_ | refine World.Ext.alloc ?_ _ | refine World.Ext.setCell ?_ (by simp) _))
          have HX6 := Lib.hid (HX5.out.trans hx6)
          have HR6 := Lib.hid (HR5.out.ext hx6)
          have HB6 : Hid (OwnMat w1.heap.size w6.heap.size w6 a5 A5 C5 M) := (HB5.out.ext hx6).mono (Nat.le_refl _) hx6.size
          have x0 := (HQ0.out.ext (HX5.out.trans hx51)).cell0
          have lx := (HQ0.out.ext (HX5.out.trans hx51)).lt
          clear hx51 ho6 hx6 HC5 HR5 HB5 HX5
          go_upto_region 8 with fail
          rw [← hw6]
          clear hw6 x0 lx
          have x0 := (HQ0.out.ext HX6.out).cell0
          have x1 := (HQ0.out.ext HX6.out).cell1
          have x2 := (HQ0.out.ext HX6.out).cell2
          have x3 := (HQ0.out.ext HX6.out).cell3
          have lx := (HQ0.out.ext HX6.out).lt
          have y0 := HP6.out.cell0
          have y1 := HP6.out.cell1
          have y2 := HP6.out.cell2
          have y3 := HP6.out.cell3
          have ly := HP6.out.lt
          go_wp2_with fail
          refine (HE1.out w6 g1 d1 HX6.out HG6.out.1).mono ?_
          rintro e w7 ⟨rfl, hx7⟩
          have HX7 := Lib.hid (HX6.out.trans hx7)
          have HG7 := Lib.hid (HG6.out.ext hx7)
          have HP7 := Lib.hid (HP6.out.ext hx7)
          have HR7 := Lib.hid (HR6.out.ext hx7)
          have HB7 := Lib.hid ((HB6.out.ext hx7).mono (Nat.le_refl _) hx7.size)
          clear hx7 x0 x1 x2 x3 y0 y1 y2 y3 lx ly HG6 HP6 HR6 HB6
          have x0 := (HQ0.out.ext HX7.out).cell0
          have x1 := (HQ0.out.ext HX7.out).cell1
          have x2 := (HQ0.out.ext HX7.out).cell2
          have x3 := (HQ0.out.ext HX7.out).cell3
          have y0 := HP7.out.cell0
          have y1 := HP7.out.cell1
          have y2 := HP7.out.cell2
          have y3 := HP7.out.cell3
          have lx := (HQ0.out.ext HX7.out).lt
          have ly := HP7.out.lt
          go_wp2_with fail
          refine (HE2.out w7 g2 d2 HX7.out HG7.out.2.1).mono ?_
          rintro e w8 ⟨rfl, hx8⟩
          have HX8 := Lib.hid (HX7.out.trans hx8)
          have HG8 := Lib.hid (HG7.out.ext hx8)
          have HP8 := Lib.hid (HP7.out.ext hx8)
          have HR8 := Lib.hid (HR7.out.ext hx8)
          have HB8 := Lib.hid ((HB7.out.ext hx8).mono (Nat.le_refl _) hx8.size)
          clear hx8 x0 x1 x2 x3 y0 y1 y2 y3 lx ly HG7 HP7 HR7 HB7
          obtain ⟨r1, r2, r3, HR⟩ := Res.storeM (lo := w.heap.size + 2) (.slice none 0 0) (HX0.out.trans HX8.out) (by omega) (HO.out.ext HX8.out) (by omega) (OwnMat.none _ _ _ none)
          go_wp2
          exact bodyPost_ret (v := .tuple #[.agg #[.slice none 0 0], .bool false]) (by simp [results, Try.results15, go_sem, r3]) rfl (OpRet.no HR.out.1)
        · cases e3 : decide (R.2.2.1 = (rebU R).2.2.1)
          · skip
            have hrb : rebOk R = false := HSS.out true true false _ e1 e2 e3 rfl
            rw [hrb]
            rw [e1] at HE1
            rw [e2] at HE2
            rw [e3] at HE3
            clear hrb HSS e1 e2 e3
            show Calls _ _ _ _ (GreyRet2 w [] false)
            generalize rebU R = U at *
            generalize rebM R = M at *
            generalize R.1.length = n1 at *
            generalize R.2.1.length = n2 at *
            generalize R.2.2.1.length = n3 at *
            generalize R.2.2.2.length = n4 at *
            go_enter Try.func15, Try.ntmps15
            go_wp2_with fail
            rw [← hW0]
            clear hW0
            go_wp2_with fail
            refine HRO.out.mono ?_
            rintro e w1 ⟨rfl, hx1⟩
            clear k0 k3 lk
            have k3 := (HQ0.out.ext hx1).cell3
            have lk := (HQ0.out.ext hx1).lt
            have HL1 : Hid (w.heap.size + 1 < w1.heap.size) := Nat.lt_of_lt_of_le hl0 hx1.size
            obtain ⟨W2, hW2⟩ : ∃ W2, W2 = w1.alloc (.cells #[.slice a4 n4 c4] 26) := ⟨_, rfl⟩
            have hx2 : w1.Ext W2 := by rw [hW2]; repeat (first | exact World.Ext.refl _ | exact ⟨_, rfl⟩ | assumption | refine World.Ext.over ?_ _ | refine World.Ext.drewN ?_ _ | refine World.Ext.drew ?_ | refine World.Ext.alloc ?_ _ | refine World.Ext.setCell ?_ (by simp) _)
            have hz2 : w1.heap.size ≤ W2.heap.size := hx2.size
            have d2 : W2.cell? ⟨w1.heap.size, 0, none⟩ = some (.slice a4 n4 c4) := by rw [hW2]; simp [go_sem]
            have HX2 := Lib.hid (hx1.trans hx2)
            have HC2 := Lib.hid (HRM.out W2 w1.heap.size HX2.out d2)
            clear hx1 hx2 d2
            go_wp2_with fail
            rw [← hW2]
            clear hW2 k3 lk
            refine HC2.out.mono ?_
            rintro e w3 ⟨a5, c5, A5, C5, rfl, hx3, ho3⟩
            rw [HM1.out]
            have HX3 := Lib.hid (HX2.out.trans hx3)
            obtain ⟨W4, hW4⟩ : ∃ W4, W4 = w3.alloc (.cells #[.slice a5 n4 c5] 26) := ⟨_, rfl⟩
            have hx4 : w3.Ext W4 := by rw [hW4]; repeat (first | exact World.Ext.refl _ | exact ⟨_, rfl⟩ | assumption | refine World.Ext.over ?_ _ | refine World.Ext.drewN ?_ _ | refine World.Ext.drew ?_ | refine World.Ext.alloc ?_ _ | refine World.Ext.setCell ?_ (by simp) _)
            have HC4 := Lib.hid (HVG.out W4 a5 c5 A5 C5 (ho3.mat.ext hx4))
            have HX4 := Lib.hid (HX3.out.trans hx4)
            have HB4 : Hid (OwnMat w1.heap.size w3.heap.size W4 a5 A5 C5 M) := (ho3.mono hz2 (Nat.le_refl _)).ext hx4
            have HR4 : Hid (One W4 w3.heap.size 26 (.slice a5 n4 c5)) := by rw [hW4]; exact One.new _ _ _ _ rfl
            have hz4 : w3.heap.size ≤ W4.heap.size := hx4.size
            clear hx3 hx4 ho3 HC2 HX2 HRM HVG HX3
            go_wp2_with fail
            rw [← hW4]
            clear hW4
            refine HC4.out.mono ?_
            rintro e w5 ⟨rfl, hx5⟩
            have HX5 := Lib.hid (HX4.out.trans hx5)
            have HR5 := Lib.hid (HR4.out.ext hx5)
            have HB5 : Hid (OwnMat w1.heap.size w5.heap.size w5 a5 A5 C5 M) := (HB4.out.ext hx5).mono (Nat.le_refl _) (Nat.le_trans hz4 hx5.size)
            have HC5 := Lib.hid (HGT.out w5 w3.heap.size a5 c5 A5 C5 HR5.out.cell HB5.out.mat)
            clear hx5 HC4 HX4 HB4 HR4 hz2 hz4 HGT
            go_wp2_with fail
            refine HC5.out.mono ?_
            rintro e w51 ⟨g1, g2, g3, g4, d1, d2, d3, d4, A6, C6, rfl, hx51, ho6⟩
            unfold gtV
            obtain ⟨w6, hw6⟩ : ∃ w6, w6 = w51.alloc (.cells #[.slice g1 U.1.length d1, .slice g2 U.2.1.length d2, .slice g3 U.2.2.1.length d3, .slice g4 U.2.2.2.length d4] 30) := ⟨_, rfl⟩
            have hx6 : w5.Ext w6 := by rw [hw6]; exact hx51.trans (by repeat (first | exact World.Ext.refl _ | exact ⟨_, rfl⟩ | assumption | refine World.Ext.over ?_ _ | refine World.Ext.drewN ?_ _ | refine World.Ext.drew ?_ | refine World.Ext.alloc ?_ _ | refine World.Ext.setCell ?_ (by simp) _))
            have HP6 : Hid (Qua w6 w51.heap.size 30 (.slice g1 U.1.length d1) (.slice g2 U.2.1.length d2) (.slice g3 U.2.2.1.length d3) (.slice g4 U.2.2.2.length d4)) := by rw [hw6]; exact Qua.new _ _ _ _ _ _ _ rfl
            have HG6 : Hid (RowG w6 g1 g2 g3 g4 A6 C6 U) := by rw [hw6]; exact ho6.row.ext (by repeat (first | exact World.Ext.refl _ | exact ⟨_, rfl⟩ | assumption | refine World.Ext.over ?_ _ | refine World.Ext.drewN ?_ _ | refine World.Ext.drew ?_ | refine World.Ext.alloc ?_ _ | refine World.Ext.setCell ?_ (by simp) _))
            have HX6 := Lib.hid (HX5.out.trans hx6)
            have HR6 := Lib.hid (HR5.out.ext hx6)
            have HB6 : Hid (OwnMat w1.heap.size w6.heap.size w6 a5 A5 C5 M) := (HB5.out.ext hx6).mono (Nat.le_refl _) hx6.size
            have x0 := (HQ0.out.ext (HX5.out.trans hx51)).cell0
            have lx := (HQ0.out.ext (HX5.out.trans hx51)).lt
            clear hx51 ho6 hx6 HC5 HR5 HB5 HX5
            go_upto_region 8 with fail
            rw [← hw6]
            clear hw6 x0 lx
            have x0 := (HQ0.out.ext HX6.out).cell0
            have x1 := (HQ0.out.ext HX6.out).cell1
            have x2 := (HQ0.out.ext HX6.out).cell2
            have x3 := (HQ0.out.ext HX6.out).cell3
            have lx := (HQ0.out.ext HX6.out).lt
            have y0 := HP6.out.cell0
            have y1 := HP6.out.cell1
            have y2 := HP6.out.cell2
            have y3 := HP6.out.cell3
            have ly := HP6.out.lt
            go_wp2_with fail
            refine (HE1.out w6 g1 d1 HX6.out HG6.out.1).mono ?_
            rintro e w7 ⟨rfl, hx7⟩
            have HX7 := Lib.hid (HX6.out.trans hx7)
            have HG7 := Lib.hid (HG6.out.ext hx7)
            have HP7 := Lib.hid (HP6.out.ext hx7)
            have HR7 := Lib.hid (HR6.out.ext hx7)
            have HB7 := Lib.hid ((HB6.out.ext hx7).mono (Nat.le_refl _) hx7.size)
            clear hx7 x0 x1 x2 x3 y0 y1 y2 y3 lx ly HG6 HP6 HR6 HB6
            have x0 := (HQ0.out.ext HX7.out).cell0
            have x1 := (HQ0.out.ext HX7.out).cell1
            have x2 := (HQ0.out.ext HX7.out).cell2
            have x3 := (HQ0.out.ext HX7.out).cell3
            have y0 := HP7.out.cell0
            have y1 := HP7.out.cell1
            have y2 := HP7.out.cell2
            have y3 := HP7.out.cell3
            have lx := (HQ0.out.ext HX7.out).lt
            have ly := HP7.out.lt
            go_wp2_with fail
            refine (HE2.out w7 g2 d2 HX7.out HG7.out.2.1).mono ?_
            rintro e w8 ⟨rfl, hx8⟩
            have HX8 := Lib.hid (HX7.out.trans hx8)
            have HG8 := Lib.hid (HG7.out.ext hx8)
            have HP8 := Lib.hid (HP7.out.ext hx8)
            have HR8 := Lib.hid (HR7.out.ext hx8)
            have HB8 := Lib.hid ((HB7.out.ext hx8).mono (Nat.le_refl _) hx8.size)
            clear hx8 x0 x1 x2 x3 y0 y1 y2 y3 lx ly HG7 HP7 HR7 HB7
            have x0 := (HQ0.out.ext HX8.out).cell0
            have x1 := (HQ0.out.ext HX8.out).cell1
            have x2 := (HQ0.out.ext HX8.out).cell2
            have x3 := (HQ0.out.ext HX8.out).cell3
            have y0 := HP8.out.cell0
            have y1 := HP8.out.cell1
            have y2 := HP8.out.cell2
            have y3 := HP8.out.cell3
            have lx := (HQ0.out.ext HX8.out).lt
            have ly := HP8.out.lt
            go_wp2_with fail
            refine (HE3.out w8 g3 d3 HX8.out HG8.out.2.2.1).mono ?_
            rintro e w9 ⟨rfl, hx9⟩
            have HX9 := Lib.hid (HX8.out.trans hx9)
            have HG9 := Lib.hid (HG8.out.ext hx9)
            have HP9 := Lib.hid (HP8.out.ext hx9)
            have HR9 := Lib.hid (HR8.out.ext hx9)
            have HB9 := Lib.hid ((HB8.out.ext hx9).mono (Nat.le_refl _) hx9.size)
            clear hx9 x0 x1 x2 x3 y0 y1 y2 y3 lx ly HG8 HP8 HR8 HB8
            obtain ⟨r1, r2, r3, HR⟩ := Res.storeM (lo := w.heap.size + 2) (.slice none 0 0) (HX0.out.trans HX9.out) (by omega) (HO.out.ext HX9.out) (by omega) (OwnMat.none _ _ _ none)
            go_wp2
            exact bodyPost_ret (v := .tuple #[.agg #[.slice none 0 0], .bool false]) (by simp [results, Try.results15, go_sem, r3]) rfl (OpRet.no HR.out.1)
          · cases e4 : decide (R.2.2.2 = (rebU R).2.2.2)
            · skip
              have hrb : rebOk R = false := HSS.out true true true false e1 e2 e3 e4
              rw [hrb]
              rw [e1] at HE1
              rw [e2] at HE2
              rw [e3] at HE3
              rw [e4] at HE4
              clear hrb HSS e1 e2 e3 e4
              show Calls _ _ _ _ (GreyRet2 w [] false)
              generalize rebU R = U at *
              generalize rebM R = M at *
              generalize R.1.length = n1 at *
              generalize R.2.1.length = n2 at *
              generalize R.2.2.1.length = n3 at *
              generalize R.2.2.2.length = n4 at *
              go_enter Try.func15, Try.ntmps15
              go_wp2_with fail
              rw [← hW0]
              clear hW0
              go_wp2_with fail
              refine HRO.out.mono ?_
              rintro e w1 ⟨rfl, hx1⟩
              clear k0 k3 lk
              have k3 := (HQ0.out.ext hx1).cell3
              have lk := (HQ0.out.ext hx1).lt
              have HL1 : Hid (w.heap.size + 1 < w1.heap.size) := Nat.lt_of_lt_of_le hl0 hx1.size
              obtain ⟨W2, hW2⟩ : ∃ W2, W2 = w1.alloc (.cells #[.slice a4 n4 c4] 26) := ⟨_, rfl⟩
              have hx2 : w1.Ext W2 := by rw [hW2]; repeat (first | exact World.Ext.refl _ | exact ⟨_, rfl⟩ | assumption | refine World.Ext.over ?_ _ | refine World.Ext.drewN ?_ _ | refine World.Ext.drew ?_ | refine World.Ext.alloc ?_ _ | refine World.Ext.setCell ?_ (by simp) _)
              have hz2 : w1.heap.size ≤ W2.heap.size := hx2.size
              have d2 : W2.cell? ⟨w1.heap.size, 0, none⟩ = some (.slice a4 n4 c4) := by rw [hW2]; simp [go_sem]
              have HX2 := Lib.hid (hx1.trans hx2)
              have HC2 := Lib.hid (HRM.out W2 w1.heap.size HX2.out d2)
              clear hx1 hx2 d2
              go_wp2_with fail
              rw [← hW2]
              clear hW2 k3 lk
              refine HC2.out.mono ?_
              rintro e w3 ⟨a5, c5, A5, C5, rfl, hx3, ho3⟩
              rw [HM1.out]
              have HX3 := Lib.hid (HX2.out.trans hx3)
              obtain ⟨W4, hW4⟩ : ∃ W4, W4 = w3.alloc (.cells #[.slice a5 n4 c5] 26) := ⟨_, rfl⟩
              have hx4 : w3.Ext W4 := by rw [hW4]; repeat (first | exact World.Ext.refl _ | exact ⟨_, rfl⟩ | assumption | refine World.Ext.over ?_ _ | refine World.Ext.drewN ?_ _ | refine World.Ext.drew ?_ | refine World.Ext.alloc ?_ _ | refine World.Ext.setCell ?_ (by simp) _)
              have HC4 := Lib.hid (HVG.out W4 a5 c5 A5 C5 (ho3.mat.ext hx4))
              have HX4 := Lib.hid (HX3.out.trans hx4)
              have HB4 : Hid (OwnMat w1.heap.size w3.heap.size W4 a5 A5 C5 M) := (ho3.mono hz2 (Nat.le_refl _)).ext hx4
              have HR4 : Hid (One W4 w3.heap.size 26 (.slice a5 n4 c5)) := by rw [hW4]; exact One.new _ _ _ _ rfl
              have hz4 : w3.heap.size ≤ W4.heap.size := hx4.size
              clear hx3 hx4 ho3 HC2 HX2 HRM HVG HX3
              go_wp2_with fail
              rw [← hW4]
              clear hW4
              refine HC4.out.mono ?_
              rintro e w5 ⟨rfl, hx5⟩
              have HX5 := Lib.hid (HX4.out.trans hx5)
              have HR5 := Lib.hid (HR4.out.ext hx5)
              have HB5 : Hid (OwnMat w1.heap.size w5.heap.size w5 a5 A5 C5 M) := (HB4.out.ext hx5).mono (Nat.le_refl _) (Nat.le_trans hz4 hx5.size)
              have HC5 := Lib.hid (HGT.out w5 w3.heap.size a5 c5 A5 C5 HR5.out.cell HB5.out.mat)
              clear hx5 HC4 HX4 HB4 HR4 hz2 hz4 HGT
              go_wp2_with fail
              refine HC5.out.mono ?_
              rintro e w51 ⟨g1, g2, g3, g4, d1, d2, d3, d4, A6, C6, rfl, hx51, ho6⟩
              unfold gtV
              obtain ⟨w6, hw6⟩ : ∃ w6, w6 = w51.alloc (.cells #[.slice g1 U.1.length d1, .slice g2 U.2.1.length d2, .slice g3 U.2.2.1.length d3, .slice g4 U.2.2.2.length d4] 30) := ⟨_, rfl⟩
              have hx6 : w5.Ext w6 := by rw [hw6]; exact hx51.trans (by repeat (first | exact World.Ext.refl _ | exact ⟨_, rfl⟩ | assumption | refine World.Ext.over ?_ _ | refine World.Ext.drewN ?_ _ | refine World.Ext.drew ?_ | refine World.Ext.alloc ?_ _ | refine World.Ext.setCell ?_ (by simp) _))
              have HP6 : Hid (Qua w6 w51.heap.size 30 (.slice g1 U.1.length d1) (.slice g2 U.2.1.length d2) (.slice g3 U.2.2.1.length d3) (.slice g4 U.2.2.2.length d4)) := by rw [hw6]; exact Qua.new _ _ _ _ _ _ _ rfl
              have HG6 : Hid (RowG w6 g1 g2 g3 g4 A6 C6 U) := by rw [hw6]; exact ho6.row.ext (by repeat (first | exact World.Ext.refl _ | exact ⟨_, rfl⟩ | assumption | refine World.Ext.over ?_ _ | refine World.Ext.drewN ?_ _ | refine World.Ext.drew ?_ | refine World.Ext.alloc ?_ _ | refine World.Ext.setCell ?_ (by simp) _))
              have HX6 := Lib.hid (HX5.out.trans hx6)
              have HR6 := Lib.hid (HR5.out.ext hx6)
              have HB6 : Hid (OwnMat w1.heap.size w6.heap.size w6 a5 A5 C5 M) := (HB5.out.ext hx6).mono (Nat.le_refl _) hx6.size
              have x0 := (HQ0.out.ext (HX5.out.trans hx51)).cell0
              have lx := (HQ0.out.ext (HX5.out.trans hx51)).lt
              clear hx51 ho6 hx6 HC5 HR5 HB5 HX5
              go_upto_region 8 with fail
              rw [← hw6]
              clear hw6 x0 lx
              have x0 := (HQ0.out.ext HX6.out).cell0
              have x1 := (HQ0.out.ext HX6.out).cell1
              have x2 := (HQ0.out.ext HX6.out).cell2
              have x3 := (HQ0.out.ext HX6.out).cell3
              have lx := (HQ0.out.ext HX6.out).lt
              have y0 := HP6.out.cell0
              have y1 := HP6.out.cell1
              have y2 := HP6.out.cell2
              have y3 := HP6.out.cell3
              have ly := HP6.out.lt
              go_wp2_with fail
              refine (HE1.out w6 g1 d1 HX6.out HG6.out.1).mono ?_
              rintro e w7 ⟨rfl, hx7⟩
              have HX7 := Lib.hid (HX6.out.trans hx7)
              have HG7 := Lib.hid (HG6.out.ext hx7)
              have HP7 := Lib.hid (HP6.out.ext hx7)
              have HR7 := Lib.hid (HR6.out.ext hx7)
              have HB7 := Lib.hid ((HB6.out.ext hx7).mono (Nat.le_refl _) hx7.size)
              clear hx7 x0 x1 x2 x3 y0 y1 y2 y3 lx ly HG6 HP6 HR6 HB6
              have x0 := (HQ0.out.ext HX7.out).cell0
              have x1 := (HQ0.out.ext HX7.out).cell1
              have x2 := (HQ0.out.ext HX7.out).cell2
              have x3 := (HQ0.out.ext HX7.out).cell3
              have y0 := HP7.out.cell0
              have y1 := HP7.out.cell1
              have y2 := HP7.out.cell2
              have y3 := HP7.out.cell3
              have lx := (HQ0.out.ext HX7.out).lt
              have ly := HP7.out.lt
              go_wp2_with fail
              refine (HE2.out w7 g2 d2 HX7.out HG7.out.2.1).mono ?_
              rintro e w8 ⟨rfl, hx8⟩
              have HX8 := Lib.hid (HX7.out.trans hx8)
              have HG8 := Lib.hid (HG7.out.ext hx8)
              have HP8 := Lib.hid (HP7.out.ext hx8)
              have HR8 := Lib.hid (HR7.out.ext hx8)
              have HB8 := Lib.hid ((HB7.out.ext hx8).mono (Nat.le_refl _) hx8.size)
              clear hx8 x0 x1 x2 x3 y0 y1 y2 y3 lx ly HG7 HP7 HR7 HB7
              have x0 := (HQ0.out.ext HX8.out).cell0
              have x1 := (HQ0.out.ext HX8.out).cell1
              have x2 := (HQ0.out.ext HX8.out).cell2
              have x3 := (HQ0.out.ext HX8.out).cell3
              have y0 := HP8.out.cell0
              have y1 := HP8.out.cell1
              have y2 := HP8.out.cell2
              have y3 := HP8.out.cell3
              have lx := (HQ0.out.ext HX8.out).lt
              have ly := HP8.out.lt
              go_wp2_with fail
              refine (HE3.out w8 g3 d3 HX8.out HG8.out.2.2.1).mono ?_
              rintro e w9 ⟨rfl, hx9⟩
              have HX9 := Lib.hid (HX8.out.trans hx9)
              have HG9 := Lib.hid (HG8.out.ext hx9)
              have HP9 := Lib.hid (HP8.out.ext hx9)
              have HR9 := Lib.hid (HR8.out.ext hx9)
              have HB9 := Lib.hid ((HB8.out.ext hx9).mono (Nat.le_refl _) hx9.size)
              clear hx9 x0 x1 x2 x3 y0 y1 y2 y3 lx ly HG8 HP8 HR8 HB8
              have x0 := (HQ0.out.ext HX9.out).cell0
              have x1 := (HQ0.out.ext HX9.out).cell1
              have x2 := (HQ0.out.ext HX9.out).cell2
              have x3 := (HQ0.out.ext HX9.out).cell3
              have y0 := HP9.out.cell0
              have y1 := HP9.out.cell1
              have y2 := HP9.out.cell2
              have y3 := HP9.out.cell3
              have lx := (HQ0.out.ext HX9.out).lt
              have ly := HP9.out.lt
              go_wp2_with fail
              refine (HE4.out w9 g4 d4 A6 C6 HX9.out HG9.out.2.2.2).mono ?_
              rintro e w10 ⟨rfl, hx10⟩
              have HX10 := Lib.hid (HX9.out.trans hx10)
              have HG10 := Lib.hid (HG9.out.ext hx10)
              have HP10 := Lib.hid (HP9.out.ext hx10)
              have HR10 := Lib.hid (HR9.out.ext hx10)
              have HB10 := Lib.hid ((HB9.out.ext hx10).mono (Nat.le_refl _) hx10.size)
              clear hx10 x0 x1 x2 x3 y0 y1 y2 y3 lx ly HG9 HP9 HR9 HB9
              obtain ⟨r1, r2, r3, HR⟩ := Res.storeM (lo := w.heap.size + 2) (.slice none 0 0) (HX0.out.trans HX10.out) (by omega) (HO.out.ext HX10.out) (by omega) (OwnMat.none _ _ _ none)
              go_wp2
              exact bodyPost_ret (v := .tuple #[.agg #[.slice none 0 0], .bool false]) (by simp [results, Try.results15, go_sem, r3]) rfl (OpRet.no HR.out.1)
            · skip
              have hrb : rebOk R = true := HSS.out true true true true e1 e2 e3 e4
              rw [hrb]
              rw [e1] at HE1
              rw [e2] at HE2
              rw [e3] at HE3
              rw [e4] at HE4
              clear hrb HSS e1 e2 e3 e4
              show Calls _ _ _ _ (GreyRet2 w (rebM R) true)
              generalize rebU R = U at *
              generalize rebM R = M at *
              generalize R.1.length = n1 at *
              generalize R.2.1.length = n2 at *
              generalize R.2.2.1.length = n3 at *
              generalize R.2.2.2.length = n4 at *
              go_enter Try.func15, Try.ntmps15
              go_wp2_with fail
              rw [← hW0]
              clear hW0
              go_wp2_with fail
              refine HRO.out.mono ?_
              rintro e w1 ⟨rfl, hx1⟩
              clear k0 k3 lk
              have k3 := (HQ0.out.ext hx1).cell3
              have lk := (HQ0.out.ext hx1).lt
              have HL1 : Hid (w.heap.size + 1 < w1.heap.size) := Nat.lt_of_lt_of_le hl0 hx1.size
              obtain ⟨W2, hW2⟩ : ∃ W2, W2 = w1.alloc (.cells #[.slice a4 n4 c4] 26) := ⟨_, rfl⟩
              have hx2 : w1.Ext W2 := by rw [hW2]; repeat (first | exact World.Ext.refl _ | exact ⟨_, rfl⟩ | assumption | refine World.Ext.over ?_ _ | refine World.Ext.drewN ?_ _ | refine World.Ext.drew ?_ | refine World.Ext.alloc ?_ _ | refine World.Ext.setCell ?_ (by simp) _)
              have hz2 : w1.heap.size ≤ W2.heap.size := hx2.size
              have d2 : W2.cell? ⟨w1.heap.size, 0, none⟩ = some (.slice a4 n4 c4) := by rw [hW2]; simp [go_sem]
              have HX2 := Lib.hid (hx1.trans hx2)
              have HC2 := Lib.hid (HRM.out W2 w1.heap.size HX2.out d2)
              clear hx1 hx2 d2
              go_wp2_with fail
              rw [← hW2]
              clear hW2 k3 lk
              refine HC2.out.mono ?_
              rintro e w3 ⟨a5, c5, A5, C5, rfl, hx3, ho3⟩
              rw [HM1.out]
              have HX3 := Lib.hid (HX2.out.trans hx3)
              obtain ⟨W4, hW4⟩ : ∃ W4, W4 = w3.alloc (.cells #[.slice a5 n4 c5] 26) := ⟨_, rfl⟩
              have hx4 : w3.Ext W4 := by rw [hW4]; repeat (first | exact World.Ext.refl _ | exact ⟨_, rfl⟩ | assumption | refine World.Ext.over ?_ _ | refine World.Ext.drewN ?_ _ | refine World.Ext.drew ?_ | refine World.Ext.alloc ?_ _ | refine World.Ext.setCell ?_ (by simp) _)
              have HC4 := Lib.hid (HVG.out W4 a5 c5 A5 C5 (ho3.mat.ext hx4))
              have HX4 := Lib.hid (HX3.out.trans hx4)
              have HB4 : Hid (OwnMat w1.heap.size w3.heap.size W4 a5 A5 C5 M) := (ho3.mono hz2 (Nat.le_refl _)).ext hx4
              have HR4 : Hid (One W4 w3.heap.size 26 (.slice a5 n4 c5)) := by rw [hW4]; exact One.new _ _ _ _ rfl
              have hz4 : w3.heap.size ≤ W4.heap.size := hx4.size
              clear hx3 hx4 ho3 HC2 HX2 HRM HVG HX3
              go_wp2_with fail
              rw [← hW4]
              clear hW4
              refine HC4.out.mono ?_
              rintro e w5 ⟨rfl, hx5⟩
              have HX5 := Lib.hid (HX4.out.trans hx5)
              have HR5 := Lib.hid (HR4.out.ext hx5)
              have HB5 : Hid (OwnMat w1.heap.size w5.heap.size w5 a5 A5 C5 M) := (HB4.out.ext hx5).mono (Nat.le_refl _) (Nat.le_trans hz4 hx5.size)
              have HC5 := Lib.hid (HGT.out w5 w3.heap.size a5 c5 A5 C5 HR5.out.cell HB5.out.mat)
              clear hx5 HC4 HX4 HB4 HR4 hz2 hz4 HGT
              go_wp2_with fail
              refine HC5.out.mono ?_
              rintro e w51 ⟨g1, g2, g3, g4, d1, d2, d3, d4, A6, C6, rfl, hx51, ho6⟩
              unfold gtV
              obtain ⟨w6, hw6⟩ : ∃ w6, w6 = w51.alloc (.cells #[.slice g1 U.1.length d1, .slice g2 U.2.1.length d2, .slice g3 U.2.2.1.length d3, .slice g4 U.2.2.2.length d4] 30) := ⟨_, rfl⟩
              have hx6 : w5.Ext w6 := by rw [hw6]; exact hx51.trans (by repeat (first | exact World.Ext.refl _ | exact ⟨_, rfl⟩ | assumption | refine World.Ext.over ?_ _ | refine World.Ext.drewN ?_ _ | refine World.Ext.drew ?_ | refine World.Ext.alloc ?_ _ | refine World.Ext.setCell ?_ (by simp) _))
              have HP6 : Hid (Qua w6 w51.heap.size 30 (.slice g1 U.1.length d1) (.slice g2 U.2.1.length d2) (.slice g3 U.2.2.1.length d3) (.slice g4 U.2.2.2.length d4)) := by rw [hw6]; exact Qua.new _ _ _ _ _ _ _ rfl
              have HG6 : Hid (RowG w6 g1 g2 g3 g4 A6 C6 U) := by rw [hw6]; exact ho6.row.ext (by repeat (first | exact World.Ext.refl _ | exact ⟨_, rfl⟩ | assumption | refine World.Ext.over ?_ _ | refine World.Ext.drewN ?_ _ | refine World.Ext.drew ?_ | refine World.Ext.alloc ?_ _ | refine World.Ext.setCell ?_ (by simp) _))
              have HX6 := Lib.hid (HX5.out.trans hx6)
              have HR6 := Lib.hid (HR5.out.ext hx6)
              have HB6 : Hid (OwnMat w1.heap.size w6.heap.size w6 a5 A5 C5 M) := (HB5.out.ext hx6).mono (Nat.le_refl _) hx6.size
              have x0 := (HQ0.out.ext (HX5.out.trans hx51)).cell0
              have lx := (HQ0.out.ext (HX5.out.trans hx51)).lt
              clear hx51 ho6 hx6 HC5 HR5 HB5 HX5
              go_upto_region 8 with fail
              rw [← hw6]
              clear hw6 x0 lx
              have x0 := (HQ0.out.ext HX6.out).cell0
              have x1 := (HQ0.out.ext HX6.out).cell1
              have x2 := (HQ0.out.ext HX6.out).cell2
              have x3 := (HQ0.out.ext HX6.out).cell3
              have lx := (HQ0.out.ext HX6.out).lt
              have y0 := HP6.out.cell0
              have y1 := HP6.out.cell1
              have y2 := HP6.out.cell2
              have y3 := HP6.out.cell3
              have ly := HP6.out.lt
              go_wp2_with fail
              refine (HE1.out w6 g1 d1 HX6.out HG6.out.1).mono ?_
              rintro e w7 ⟨rfl, hx7⟩
              have HX7 := Lib.hid (HX6.out.trans hx7)
              have HG7 := Lib.hid (HG6.out.ext hx7)
              have HP7 := Lib.hid (HP6.out.ext hx7)
              have HR7 := Lib.hid (HR6.out.ext hx7)
              have HB7 := Lib.hid ((HB6.out.ext hx7).mono (Nat.le_refl _) hx7.size)
              clear hx7 x0 x1 x2 x3 y0 y1 y2 y3 lx ly HG6 HP6 HR6 HB6
              have x0 := (HQ0.out.ext HX7.out).cell0
              have x1 := (HQ0.out.ext HX7.out).cell1
              have x2 := (HQ0.out.ext HX7.out).cell2
              have x3 := (HQ0.out.ext HX7.out).cell3
              have y0 := HP7.out.cell0
              have y1 := HP7.out.cell1
              have y2 := HP7.out.cell2
              have y3 := HP7.out.cell3
              have lx := (HQ0.out.ext HX7.out).lt
              have ly := HP7.out.lt
              go_wp2_with fail
              refine (HE2.out w7 g2 d2 HX7.out HG7.out.2.1).mono ?_
              rintro e w8 ⟨rfl, hx8⟩
              have HX8 := Lib.hid (HX7.out.trans hx8)
              have HG8 := Lib.hid (HG7.out.ext hx8)
              have HP8 := Lib.hid (HP7.out.ext hx8)
              have HR8 := Lib.hid (HR7.out.ext hx8)
              have HB8 := Lib.hid ((HB7.out.ext hx8).mono (Nat.le_refl _) hx8.size)
              clear hx8 x0 x1 x2 x3 y0 y1 y2 y3 lx ly HG7 HP7 HR7 HB7
              have x0 := (HQ0.out.ext HX8.out).cell0
              have x1 := (HQ0.out.ext HX8.out).cell1
              have x2 := (HQ0.out.ext HX8.out).cell2
              have x3 := (HQ0.out.ext HX8.out).cell3
              have y0 := HP8.out.cell0
              have y1 := HP8.out.cell1
              have y2 := HP8.out.cell2
              have y3 := HP8.out.cell3
              have lx := (HQ0.out.ext HX8.out).lt
              have ly := HP8.out.lt
              go_wp2_with fail
              refine (HE3.out w8 g3 d3 HX8.out HG8.out.2.2.1).mono ?_
              rintro e w9 ⟨rfl, hx9⟩
              have HX9 := Lib.hid (HX8.out.trans hx9)
              have HG9 := Lib.hid (HG8.out.ext hx9)
              have HP9 := Lib.hid (HP8.out.ext hx9)
              have HR9 := Lib.hid (HR8.out.ext hx9)
              have HB9 := Lib.hid ((HB8.out.ext hx9).mono (Nat.le_refl _) hx9.size)
              clear hx9 x0 x1 x2 x3 y0 y1 y2 y3 lx ly HG8 HP8 HR8 HB8
              have x0 := (HQ0.out.ext HX9.out).cell0
              have x1 := (HQ0.out.ext HX9.out).cell1
              have x2 := (HQ0.out.ext HX9.out).cell2
              have x3 := (HQ0.out.ext HX9.out).cell3
              have y0 := HP9.out.cell0
              have y1 := HP9.out.cell1
              have y2 := HP9.out.cell2
              have y3 := HP9.out.cell3
              have lx := (HQ0.out.ext HX9.out).lt
              have ly := HP9.out.lt
              go_wp2_with fail
              refine (HE4.out w9 g4 d4 A6 C6 HX9.out HG9.out.2.2.2).mono ?_
              rintro e w10 ⟨rfl, hx10⟩
              have HX10 := Lib.hid (HX9.out.trans hx10)
              have HG10 := Lib.hid (HG9.out.ext hx10)
              have HP10 := Lib.hid (HP9.out.ext hx10)
              have HR10 := Lib.hid (HR9.out.ext hx10)
              have HB10 := Lib.hid ((HB9.out.ext hx10).mono (Nat.le_refl _) hx10.size)
              clear hx10 x0 x1 x2 x3 y0 y1 y2 y3 lx ly HG9 HP9 HR9 HB9
              have hl2 : w.heap.size + 1 < w1.heap.size := HL1.out
              obtain ⟨r1, r2, r3, HR⟩ := Res.storeM (.slice a5 n4 c5) (HX0.out.trans HX10.out) (by omega) (HO.out.ext HX10.out) hl2 HB10.out
              have s1 := HR10.out.cell
              have s2 := HR10.out.lt
              go_wp2
              exact bodyPost_ret (v := .tuple #[.agg #[.slice a5 n4 c5], .bool true]) (by simp [results, Try.results15, go_sem, r3]) rfl ⟨a5, c5, A5, C5, by rw [HM1.out], HR.out.1, HR.out.2⟩
end Go.Proofs.Ytmmanehdmnkekaa
