/- RebuildGrey: the reference's side. -/
import Derived.Test.YtmmanehdmnkekaaGreatRebI
namespace Go.Proofs.YtmmanehdmnkekaaGreat
open Go Go.RowKit
noncomputable def sameG (U R : GT) : Bool := decide (R.1 = U.1) && (decide (R.2.1 = U.2.1) && (decide (R.2.2.1 = U.2.2.1) && decide (R.2.2.2 = U.2.2.2)))
structure SameC (w : World) (u v : Value) (t : Bool) : Prop where
  out : ∀ x, Calls Tryz.prog 71 #[u, v] (w.over x) fun e w' => e = .returned (.bool t) ∧ (w.over x).Ext w'
set_option maxRecDepth 5000 in
set_option maxHeartbeats 3200000 in
theorem l07Same_any (p q : Nat) (T1 T2 : TypeId) (b1 b2 b3 b4 a1 a2 a3 a4 : Option Addr) (d1 d2 d3 d4 c1 c2 c3 c4 : Nat) (B A : Nat → Option Addr) (D C : Nat → Nat) (U R : GT) (w : World) (hU : GtLen U) (hR : GtLen R)
    (hu : RowG w b1 b2 b3 b4 B D U) (hr : RowG w a1 a2 a3 a4 A C R) (hp : Qua w p T1 (.slice b1 U.1.length d1) (.slice b2 U.2.1.length d2) (.slice b3 U.2.2.1.length d3) (.slice b4 U.2.2.2.length d4)) (hq : Qua w q T2 (.slice a1 R.1.length c1) (.slice a2 R.2.1.length c2) (.slice a3 R.2.2.1.length c3) (.slice a4 R.2.2.2.length c4)) :
    Calls Tryz.prog 44 #[.pointer (some ⟨p, 0, none⟩), .pointer (some ⟨q, 0, none⟩)] w fun e w' => e = .returned (.bool (sameG U R)) ∧ w.Ext w' := by
  obtain ⟨U1, U2, U3, U4⟩ := U
  obtain ⟨R1, R2, R3, R4⟩ := R
  obtain ⟨n1, n2, n3, n4, n5⟩ := hU
  obtain ⟨m1, m2, m3, m4, m5⟩ := hR
  obtain ⟨g1, g2, g3, g4⟩ := hu
  obtain ⟨h1, h2, h3, h4⟩ := hr
  unfold sameG
  dsimp only at *
  have HS1 : SameC w (.slice b1 U1.length d1) (.slice a1 R1.length c1) (decide (R1 = U1)) := ⟨fun x => by
    have h := l00Same_any b1 a1 d1 c1 U1 R1 (w.over x) n1 m1 (RowI.ext g1 ⟨x, rfl⟩) (RowI.ext h1 ⟨x, rfl⟩)
    rw [show decide (U1 = R1) = decide (R1 = U1) from decide_eq_decide.2 eq_comm] at h
    exact h⟩
  have HS2 : SameC w (.slice b2 U2.length d2) (.slice a2 R2.length c2) (decide (R2 = U2)) := ⟨fun x => by
    have h := l00Same_any b2 a2 d2 c2 U2 R2 (w.over x) n2 m2 (RowI.ext g2 ⟨x, rfl⟩) (RowI.ext h2 ⟨x, rfl⟩)
    rw [show decide (U2 = R2) = decide (R2 = U2) from decide_eq_decide.2 eq_comm] at h
    exact h⟩
  have HS3 : SameC w (.slice b3 U3.length d3) (.slice a3 R3.length c3) (decide (R3 = U3)) := ⟨fun x => by
    have h := l00Same_any b3 a3 d3 c3 U3 R3 (w.over x) n3 m3 (RowI.ext g3 ⟨x, rfl⟩) (RowI.ext h3 ⟨x, rfl⟩)
    rw [show decide (U3 = R3) = decide (R3 = U3) from decide_eq_decide.2 eq_comm] at h
    exact h⟩
  have HP := Lib.hid hp
  have HQ := Lib.hid hq
  have xc0 := hp.cell0
  have xc1 := hp.cell1
  have xc2 := hp.cell2
  have xc3 := hp.cell3
  have lx := hp.lt
  have y0 := hq.cell0
  have y1 := hq.cell1
  have y2 := hq.cell2
  have y3 := hq.cell3
  have ly := hq.lt
  have HU4 := Lib.hid g4
  have HR4 := Lib.hid h4
  have HNU := Lib.hid n5
  have HNR := Lib.hid m5
  unfold maxLen at n4 m4
  clear hp hq g1 g2 g3 g4 h1 h2 h3 h4 n1 n2 n3 n5 m1 m2 m3 m5
  cases e1 : decide (R1 = U1)
  · skip
    rw [e1] at HS1
    show Calls _ _ _ _ (fun e w' => e = .returned (.bool false) ∧ w.Ext w')
    clear HU4 HR4 HNU HNR HP HQ e1
    generalize U4.length = nU at *
    generalize R4.length = nR at *
    generalize U1.length = nU1 at *
    generalize U2.length = nU2 at *
    generalize U3.length = nU3 at *
    generalize R1.length = nR1 at *
    generalize R2.length = nR2 at *
    generalize R3.length = nR3 at *
    go_enter Tryz.func44, Tryz.ntmps44
    go_wp2_with fail
    refine wp_region_over_lit (by kernel_rfl) (by kernel_rfl) ?_; (repeat (go_big_quiet_step ((go_at_call 71; exact Calls.over_of (SameC.out (by assumption) _))))); refine wpQuiet_nil ?_; rintro _ ⟨x1, rfl⟩
    clear xc0 xc1 xc2 xc3 y0 y1 y2 y3 lx ly
    go_wp2
    go_ret
    exact ⟨rfl, ⟨x1, rfl⟩⟩
  cases e2 : decide (R2 = U2)
  · skip
    rw [e1] at HS1
    rw [e2] at HS2
    show Calls _ _ _ _ (fun e w' => e = .returned (.bool false) ∧ w.Ext w')
    clear HU4 HR4 HNU HNR HP HQ e1 e2
    generalize U4.length = nU at *
    generalize R4.length = nR at *
    generalize U1.length = nU1 at *
    generalize U2.length = nU2 at *
    generalize U3.length = nU3 at *
    generalize R1.length = nR1 at *
    generalize R2.length = nR2 at *
    generalize R3.length = nR3 at *
    go_enter Tryz.func44, Tryz.ntmps44
    go_wp2_with fail
    refine wp_region_over_lit (by kernel_rfl) (by kernel_rfl) ?_; (repeat (go_big_quiet_step ((go_at_call 71; exact Calls.over_of (SameC.out (by assumption) _))))); refine wpQuiet_nil ?_; rintro _ ⟨x1, rfl⟩
    clear xc0 xc1 xc2 xc3 y0 y1 y2 y3 lx ly
    go_wp2
    go_ret
    exact ⟨rfl, ⟨x1, rfl⟩⟩
  cases e3 : decide (R3 = U3)
  · skip
    rw [e1] at HS1
    rw [e2] at HS2
    rw [e3] at HS3
    show Calls _ _ _ _ (fun e w' => e = .returned (.bool false) ∧ w.Ext w')
    clear HU4 HR4 HNU HNR HP HQ e1 e2 e3
    generalize U4.length = nU at *
    generalize R4.length = nR at *
    generalize U1.length = nU1 at *
    generalize U2.length = nU2 at *
    generalize U3.length = nU3 at *
    generalize R1.length = nR1 at *
    generalize R2.length = nR2 at *
    generalize R3.length = nR3 at *
    go_enter Tryz.func44, Tryz.ntmps44
    go_wp2_with fail
    refine wp_region_over_lit (by kernel_rfl) (by kernel_rfl) ?_; (repeat (go_big_quiet_step ((go_at_call 71; exact Calls.over_of (SameC.out (by assumption) _))))); refine wpQuiet_nil ?_; rintro _ ⟨x1, rfl⟩
    clear xc0 xc1 xc2 xc3 y0 y1 y2 y3 lx ly
    go_wp2
    go_ret
    exact ⟨rfl, ⟨x1, rfl⟩⟩
  rw [e1] at HS1
  rw [e2] at HS2
  rw [e3] at HS3
  clear e1 e2 e3
  show Calls _ _ _ _ (fun e w' => e = .returned (.bool (decide (R4 = U4))) ∧ w.Ext w')
  generalize U1.length = nU1 at *
  generalize U2.length = nU2 at *
  generalize U3.length = nU3 at *
  generalize R1.length = nR1 at *
  generalize R2.length = nR2 at *
  generalize R3.length = nR3 at *
  by_cases hl : U4.length = R4.length
  · have HT : Hid ((∀ i, i < U4.length → U4.getD i [] = R4.getD i []) → true = decide (R4 = U4)) := fun h => (decide_eq_true (listM_ext hl h).symm).symm
    have HF : Hid (∀ i, i < U4.length → ¬ U4.getD i [] = R4.getD i [] → false = decide (R4 = U4)) := fun i _ h => (decide_eq_false (fun e => h (by rw [e]))).symm
    have HL := Lib.hid hl
    generalize decide (R4 = U4) = t at *
    rw [← hl] at y3
    rw [← hl] at HQ
    clear hl m4
    go_enter Tryz.func44, Tryz.ntmps44
    go_wp2_with fail
    refine wp_region_over_lit (by kernel_rfl) (by kernel_rfl) ?_; (repeat (go_big_quiet_step ((go_at_call 71; exact Calls.over_of (SameC.out (by assumption) _))))); refine wpQuiet_nil ?_; rintro _ ⟨x1, rfl⟩
    have HX1 : Hid (w.Ext (w.over x1)) := ⟨x1, rfl⟩
    clear xc0 xc1 xc2 xc3 y0 y1 y2 y3 lx ly HS1 HS2 HS3
    generalize w.over x1 = w1 at *
    go_wp2
    go_loopw [5] (fun i wr => ∃ k : Nat, k ≤ U4.length ∧ i = .int .i64 k ∧ Hid (∀ i, i < k → U4.getD i [] = R4.getD i []) ∧ Hid (w.Ext wr)) (fun i _ => U4.length - (intOf i).toNat)
    case atStart => exact ⟨0, Nat.zero_le _, rfl, fun i hi => by omega, HX1⟩
    case round =>
      clear HX1
      obtain ⟨k, hk, rfl, HK, HX⟩ := hrel
      have xc3 := (HP.out.ext HX.out).cell3
      have lx := (HP.out.ext HX.out).lt
      have y3 := (HQ.out.ext HX.out).cell3
      have ly := (HQ.out.ext HX.out).lt
      by_cases hlt : k < U4.length
      · obtain ⟨⟨z1, o1, rfl, hc1⟩, hr1⟩ := (HU4.out.ext HX.out) k hlt
        obtain ⟨⟨z2, o2, rfl, hc2⟩, hr2⟩ := (HR4.out.ext HX.out) k (by rw [← HL.out]; exact hlt)
        have hk0 : (0 : Int) ≤ (k : Int) := by omega
        have hlt' : (k : Int) < (U4.length : Int) := by omega
        have HC : Hid (∀ x, Calls Tryz.prog 71 #[.slice (B k) (U4.getD k []).length (D k), .slice (A k) (R4.getD k []).length (C k)] (wr.over x) fun e w' => e = .returned (.bool (decide (U4.getD k [] = R4.getD k []))) ∧ (wr.over x).Ext w') := fun x =>
          l00Same_any _ _ _ _ _ _ _ (HNU.out k) (HNR.out k) (RowOf.ext hr1 ⟨_, rfl⟩) (RowOf.ext hr2 ⟨_, rfl⟩)
        have HK1 : Hid (decide (U4.getD k [] = R4.getD k []) = true → ∀ i, i < k + 1 → U4.getD i [] = R4.getD i []) := fun h i hi => by
          by_cases e : i = k
          · rw [e]; exact of_decide_eq_true h
          · exact HK.out i (by omega)
        have HFK : Hid (decide (U4.getD k [] = R4.getD k []) = false → false = t) := fun h => HF.out k hlt (of_decide_eq_false h)
        clear HK HT HF hr1 hr2
        generalize decide (U4.getD k [] = R4.getD k []) = qb at *
        generalize (U4.getD k []).length = z at *
        generalize (R4.getD k []).length = z' at *
        cases qb
        · have hf := HFK.out rfl
          subst hf
          clear HK1 HFK
          go_wp2_with fail
          refine wp_region_over_lit (by kernel_rfl) (by kernel_rfl) ?_; (repeat (go_big_quiet_step ((go_at_call 71; exact Calls.over_of (HC.out _))))); refine wpQuiet_nil ?_; rintro _ ⟨x1, rfl⟩
          have HX2 : Hid (w.Ext (wr.over x1)) := HX.out.trans ⟨x1, rfl⟩
          clear xc3 y3 lx ly
          go_wp2
          go_ret
          exact ⟨rfl, HX2.out⟩
        · have HK2 := Lib.hid (HK1.out rfl)
          clear HK1 HFK
          go_wp2_with fail
          refine wp_region_over_lit (by kernel_rfl) (by kernel_rfl) ?_; (repeat (go_big_quiet_step ((go_at_call 71; exact Calls.over_of (HC.out _))))); refine wpQuiet_nil ?_; rintro _ ⟨x1, rfl⟩
          have HX2 : Hid (w.Ext (wr.over x1)) := HX.out.trans ⟨x1, rfl⟩
          clear xc3 y3 lx ly
          go_wp2
          go_roundw
          case rel => exact ⟨k + 1, by omega, by go_num, HK2, HX2⟩
          case measure => simp [intOf]; omega
      · have : k = U4.length := by omega
        subst this
        have ht := HT.out HK.out
        subst ht
        clear HT HF HK
        go_wp2
        go_ret
        exact ⟨rfl, HX.out⟩
  · have hd : decide (R4 = U4) = false := decide_eq_false (fun e => hl (by rw [e]))
    rw [hd]
    have hne : ((U4.length : Int) != (R4.length : Int)) = true := by
      simp only [bne_iff_ne, ne_eq]
      omega
    clear HU4 HR4 HNU HNR HP HQ hd hl
    generalize U4.length = n at *
    generalize R4.length = n' at *
    go_enter Tryz.func44, Tryz.ntmps44
    go_wp2_with fail
    refine wp_region_over_lit (by kernel_rfl) (by kernel_rfl) ?_; (repeat (go_big_quiet_step ((go_at_call 71; exact Calls.over_of (SameC.out (by assumption) _))))); refine wpQuiet_nil ?_; rintro _ ⟨x1, rfl⟩
    clear xc0 xc1 xc2 xc3 y0 y1 y2 y3 lx ly
    go_wp2
    go_ret
    exact ⟨rfl, ⟨x1, rfl⟩⟩
theorem rebOk_long {R : GT} (h : 256 < R.1.length) : rebOk R = false := by
  cases h1 : tableOk R.2.2.2 ((R.1.length : Int) - 1)
  · exact rebOk_mat h1 rfl
  cases h2 : tableOk (rebM R) 99
  · exact rebOk_mat2 h2
  obtain ⟨v1, v2, v3, v4, v5, v6⟩ := tableOk_spec h1
  obtain ⟨m1, m2, m3⟩ := rebM_facts v3 v1 (tableOkG h1).1
  have hgl := grL_table h2
  rw [m1, m2, m3] at hgl
  have hn := nodeL_len hgl
  have hnn : R.2.2.2.length * (R.2.2.2.getD 0 []).length ≤ 256 := Nat.mul_le_mul v2 v4
  have hd : decide (R.1 = (rebU R).1) = false := by
    refine decide_eq_false fun e => ?_
    have e2 : (rebU R).1.length = (nodeL (R.2.2.2.getD 0 []).length R.2.2.2.length (rebL R)).length := levT_len
    rw [e] at h
    omega
  rw [rebOk_same h1 h2 hd rfl rfl rfl, Bool.false_and]
set_option maxRecDepth 5000 in
set_option maxHeartbeats 6400000 in
theorem specRebuildGrey_any (a1 a2 a3 a4 : Option Addr) (c1 c2 c3 c4 : Nat) (A : Nat → Option Addr) (C : Nat → Nat) (R : GT) (w : World) (hb : GtBnd R) (hm : RowG w a1 a2 a3 a4 A C R) :
    Calls Tryz.prog 15 #[gtV a1 a2 a3 a4 c1 c2 c3 c4 R] w (GreyRet2 w (optM (rebOk R) (rebM R)) (rebOk R)) := by
  obtain ⟨W0, hW0⟩ : ∃ W0, W0 = (w.alloc (.cells #[.slice a1 R.1.length c1, .slice a2 R.2.1.length c2, .slice a3 R.2.2.1.length c3, .slice a4 R.2.2.2.length c4] 44)).alloc (.cells #[.slice none 0 0] 31) := ⟨_, rfl⟩
  have hx0 : w.Ext W0 := by rw [hW0]; repeat (first | exact World.Ext.refl _ | exact ⟨_, rfl⟩ | assumption | refine World.Ext.over ?_ _ | refine World.Ext.drewN ?_ _ | refine World.Ext.drew ?_ | refine World.Ext.alloc ?_ _ | refine World.Ext.setCell ?_ (by simp) _)
  have hq0 : Qua W0 w.heap.size 44 (.slice a1 R.1.length c1) (.slice a2 R.2.1.length c2) (.slice a3 R.2.2.1.length c3) (.slice a4 R.2.2.2.length c4) := by rw [hW0]; exact (Qua.new _ _ _ _ _ _ _ rfl).ext (by repeat (first | exact World.Ext.refl _ | exact ⟨_, rfl⟩ | assumption | refine World.Ext.over ?_ _ | refine World.Ext.drewN ?_ _ | refine World.Ext.drew ?_ | refine World.Ext.alloc ?_ _ | refine World.Ext.setCell ?_ (by simp) _))
  have hone : One W0 (w.heap.size + 1) 31 (.slice none 0 0) := by rw [hW0]; exact One.new _ _ _ _ (by simp)
  have hrg := hm.ext hx0
  obtain ⟨g1, g2, g3, g4⟩ := hrg
  obtain ⟨b1, b2, b3, b4, b5⟩ := hb
  have HX0 := Lib.hid hx0
  have HO := Lib.hid hone
  have HQ0 := Lib.hid hq0
  have hls : R.1.length ≤ 4611686018427387904 := by omega
  have hl0 : w.heap.size + 1 < W0.heap.size := hone.lt
  have k0 := hq0.cell0
  have k3 := hq0.cell3
  have lk := hq0.lt
  by_cases hlong : 256 < R.1.length
  · rw [rebOk_long hlong]
    have hlong' : (256 : Int) < (R.1.length : Int) := by omega
    clear hm hx0 hone hq0 g1 g2 g3 g4 b1 b2 b3 b4 b5
    show Calls _ _ _ _ (GreyRet2 w [] false)
    unfold gtV
    generalize R.1.length = n1 at *
    generalize R.2.1.length = n2 at *
    generalize R.2.2.1.length = n3 at *
    generalize R.2.2.2.length = n4 at *
    obtain ⟨r1, r2, r3, HR⟩ := Res.storeM (lo := w.heap.size + 2) (.slice none 0 0) HX0.out (by omega) HO.out (by omega) (OwnMat.none _ _ _ none)
    go_enter Tryz.func15, Tryz.ntmps15
    go_upto_region 1 with fail
    rw [← hW0]
    clear hW0
    go_wp2
    exact bodyPost_ret (v := .tuple #[.agg #[.slice none 0 0], .bool false]) (by simp [results, Tryz.results15, go_sem, r3]) rfl (OpRet.no HR.out.1)
  have hlong' : ¬ (256 : Int) < (R.1.length : Int) := by omega
  have HTB : Hid (Calls Tryz.prog 42 #[.slice a4 R.2.2.2.length c4, .int .i64 ((R.1.length : Int) - 1)] W0 fun e w' => e = .returned (.bool (tableOk R.2.2.2 ((R.1.length : Int) - 1))) ∧ W0.Ext w') := l07Table_any a4 c4 A C R.2.2.2 _ W0 b4 b5 g4
  cases hok : tableOk R.2.2.2 ((R.1.length : Int) - 1)
  · rw [hok] at HTB
    rw [rebOk_mat hok rfl]
    clear hm hx0 hone hq0 hok g1 g2 g3 g4 b1 b2 b3 b4 b5
    show Calls _ _ _ _ (GreyRet2 w [] false)
    unfold gtV
    generalize R.1.length = n1 at *
    generalize R.2.1.length = n2 at *
    generalize R.2.2.1.length = n3 at *
    generalize R.2.2.2.length = n4 at *
    go_enter Tryz.func15, Tryz.ntmps15
    go_wp2_with fail
    rw [← hW0]
    clear hW0
    go_wp2_with fail
    refine HTB.out.mono ?_
    rintro e w1 ⟨rfl, hx1⟩
    clear k0 k3 lk
    obtain ⟨r1, r2, r3, HR⟩ := Res.storeM (lo := w.heap.size + 2) (.slice none 0 0) (HX0.out.trans hx1) (by omega) (HO.out.ext hx1) (by omega) (OwnMat.none _ _ _ none)
    clear hx1
    go_wp2
    exact bodyPost_ret (v := .tuple #[.agg #[.slice none 0 0], .bool false]) (by simp [results, Tryz.results15, go_sem, r3]) rfl (OpRet.no HR.out.1)
  rw [hok] at HTB
  obtain ⟨v1, v2, v3, v4, v5, v6⟩ := tableOk_spec hok
  obtain ⟨f1, f2⟩ := tableOkG hok
  obtain ⟨m1, m2, m3⟩ := rebM_facts v3 v1 f1
  have hnn : R.2.2.2.length * (R.2.2.2.getD 0 []).length ≤ 256 := Nat.mul_le_mul v2 v4
  have hpos : 0 < R.2.2.2.length * (R.2.2.2.getD 0 []).length := Nat.mul_pos v1 v3
  have HLI := Lib.hid (fun w' (hx : W0.Ext w') => l07List_grow a4 c4 A C R.2.2.2 w' (by omega) (fun r hr => by rw [v5 r hr]; exact v3) (by omega) (g4.ext hx))
  have HRW : Hid (∀ (w' : World) (g cap : Nat), RowI w' (some ⟨g, 0, none⟩) (rebL R) → R.2.2.2.flatten.length ≤ cap → Calls Tryz.prog 43 #[.int .i64 (R.2.2.2.getD 0 []).length, .slice (some ⟨g, 0, none⟩) R.2.2.2.flatten.length cap] w' (MatRet w' (rebM R))) := fun w' g cap h hc => by
    have hrl : (rebL R).length = R.2.2.2.flatten.length := by unfold rebL; rw [List.length_map]
    have hh := l07Rows_any g 0 cap (R.2.2.2.getD 0 []).length R.2.2.2.length (rebL R) w' v3 (by omega) (by omega) (by rw [hrl, f1]) (by rw [hrl]; exact hc) h
    rw [hrl] at hh
    exact hh
  have HIS : Hid (∀ (w' : World) (p : Nat) (a : Option Addr) (c : Nat) (A : Nat → Option Addr) (C : Nat → Nat), w'.cell? ⟨p, 0, none⟩ = some (.slice a R.2.2.2.length c) → MatAt w' a A C (rebM R) → Calls Tryz.prog 22 #[.pointer (some ⟨p, 0, none⟩)] w' fun e w'' => e = .returned (.bool (tableOk (rebM R) 99)) ∧ w'.Ext w'') := fun w' p a c A C hc h =>
    l07Is_any p a c A C (rebM R) w' (by omega) (fun r => by
      by_cases hr : r < R.2.2.2.length
      · show ((grl _ _ _).getD r []).length ≤ _
        rw [grl_row hr]; omega
      · rw [List.getD_eq_getElem?_getD, List.getElem?_eq_none (by rw [m1]; omega)]; simp) (by rw [m1]; exact hc) h _ rfl
  have HTR : Hid (tableOk (rebM R) 99 = true → ∀ (w' : World) (p : Nat) (a : Option Addr) (c : Nat) (A : Nat → Option Addr) (C : Nat → Nat), w'.cell? ⟨p, 0, none⟩ = some (.slice a R.2.2.2.length c) → MatAt w' a A C (rebM R) → Calls Tryz.prog 23 #[.pointer (some ⟨p, 0, none⟩)] w' (TreeRet w' (rebU R))) := fun hk w' p a c A C hc h => by
    have h' := l07Tree_any p a c A C (rebM R) w' hk (by rw [m1]; exact hc) h
    rw [m1, m2, m3] at h'
    exact h'
  have HSM : Hid (tableOk (rebM R) 99 = true → ∀ (w' : World) (p : Nat) (b1 b2 b3 b4 : Option Addr) (d1 d2 d3 d4 : Nat) (B : Nat → Option Addr) (D : Nat → Nat), W0.Ext w' → RowG w' b1 b2 b3 b4 B D (rebU R) → Qua w' p 44 (.slice b1 (rebU R).1.length d1) (.slice b2 (rebU R).2.1.length d2) (.slice b3 (rebU R).2.2.1.length d3) (.slice b4 (rebU R).2.2.2.length d4) →
      Calls Tryz.prog 44 #[.pointer (some ⟨p, 0, none⟩), .pointer (some ⟨w.heap.size, 0, none⟩)] w' fun e w'' => e = .returned (.bool (sameG (rebU R) R)) ∧ w'.Ext w'') := fun hk w' p e1 e2 e3 e4 d1 d2 d3 d4 B D hx hu hp => by
    have hub := gt_bnd (rebM R)
    rw [rebU_gtO hk m1 m2 m3] at hub
    obtain ⟨⟨u1, u2, u3, u4, u5⟩, -⟩ := hub
    exact l07Same_any p w.heap.size _ _ e1 e2 e3 e4 a1 a2 a3 a4 d1 d2 d3 d4 c1 c2 c3 c4 B A D C (rebU R) R w' ⟨by unfold maxLen; omega, by unfold maxLen; omega, by unfold maxLen; omega, by unfold maxLen; omega, fun r => by have := u5 r; unfold maxLen; omega⟩
      ⟨by unfold maxLen; omega, by unfold maxLen; omega, by unfold maxLen; omega, by unfold maxLen; omega, fun r => by have := b5 r; unfold maxLen; omega⟩ hu (RowG.ext ⟨g1, g2, g3, g4⟩ hx) hp (hq0.ext hx)
  have HRB : Hid (tableOk (rebM R) 99 = true → rebOk R = sameG (rebU R) R) := fun hk => rebOk_same hok hk rfl rfl rfl rfl
  have HRN : Hid (tableOk (rebM R) 99 = false → rebOk R = false) := fun hk => rebOk_mat2 hk
  have HM1 := Lib.hid m1
  have HRL := Lib.hid (fun w' (hx : W0.Ext w') => RowI.ext g1 hx)
  have HF2 : Hid (∀ k, k < R.2.2.2.flatten.length → ∃ q : Nat, R.2.2.2.flatten.getD k 0 = (q : Int) ∧ q < R.1.length) := fun k hk => by
    obtain ⟨q1, q2⟩ := f2 k (by rw [← f1]; exact hk)
    exact ⟨(R.2.2.2.flatten.getD k 0).toNat, by omega, by omega⟩
  obtain ⟨r0b, r0o, r0e, r0c⟩ : ∃ b o, a4 = some ⟨b, o, none⟩ ∧ W0.cell? ⟨b, o, none⟩ = some (.slice (A 0) (R.2.2.2.getD 0 []).length (C 0)) := by
    obtain ⟨⟨b, o, e, hc⟩, -⟩ := g4 0 v1
    exact ⟨b, o, e, hc⟩
  have HR0 := Lib.hid (fun w' (hx : W0.Ext w') => hx.cell r0c)
  have h4pos : (0 : Int) < (R.2.2.2.length : Int) := by omega
  have hls2 : (R.2.2.2.getD 0 []).length ≤ 4611686018427387904 := by omega
  have hfl : R.2.2.2.flatten.length ≤ 256 := by omega
  have hfp : 0 < R.2.2.2.flatten.length := by omega
  have HMX : Hid (∀ F, (∀ j, F j = R.1.getD (R.2.2.2.flatten.getD j 0).toNat 0) → mixO R.2.2.2.flatten.length F (fun j => R.2.2.2.flatten.getD j 0) R.2.2.2.flatten.length = rebL R) := fun F hF => by
    have hrl : (rebL R).length = R.2.2.2.flatten.length := by unfold rebL; rw [List.length_map]
    refine listI_ext (by rw [mixO_len, hrl]) fun i hi => ?_
    rw [mixO_len] at hi
    rw [mixO_at hi, if_pos hi, hF, rebL_at hi]
  have HMX0 : Hid (∀ F, mixO R.2.2.2.flatten.length F (fun j => R.2.2.2.flatten.getD j 0) 0 = R.2.2.2.flatten) := fun F => by
    refine listI_ext mixO_len fun i hi => ?_
    rw [mixO_len] at hi
    rw [mixO_at hi, if_neg (by omega)]
  rw [r0e] at HTB HLI HQ0 hW0 k3 ⊢
  clear hm hx0 hone hq0 hok g1 g2 g3 g4 b1 b2 b3 b4 b5 v1 v2 v3 v4 v5 v6 f1 f2 m1 m2 m3 hnn hpos r0c
  cases hok2 : tableOk (rebM R) 99
  all_goals rw [hok2] at HIS HTR HSM HRB HRN
  · rw [HRN.out rfl]
    show Calls _ _ _ _ (GreyRet2 w [] false)
    clear HTR HSM HRB HRN hok2
    unfold gtV
    generalize hRB : rebM R = M at *
    generalize hRL : rebL R = rl at *
    clear hRB hRL
    obtain ⟨l, hl⟩ : ∃ l, l = R.2.2.2.flatten := ⟨_, rfl⟩
    rw [← hl] at HLI HRW HF2 hfl hfp HMX HMX0
    clear hl
    generalize hL1 : R.1 = L at *
    clear hL1
    generalize R.2.1.length = n2 at *
    generalize R.2.2.1.length = n3 at *
    generalize R.2.2.2.length = n4 at *
    generalize (R.2.2.2.getD 0 []).length = W at *
    go_enter Tryz.func15, Tryz.ntmps15
    go_wp2_with fail
    rw [← hW0]
    clear hW0
    go_wp2_with fail
    refine HTB.out.mono ?_
    rintro e w1 ⟨rfl, hx1⟩
    have HX1 := Lib.hid hx1
    clear k0 k3 lk hx1 HTB
    have k3 := (HQ0.out.ext HX1.out).cell3
    have lk := (HQ0.out.ext HX1.out).lt
    go_wp2_with fail
    clear k3 lk
    refine (HLI.out w1 HX1.out).mono ?_
    rintro e w2 ⟨v, rfl, hx2, hg2⟩
    obtain ⟨g7, c7, rfl, hg71, hg72, hc7⟩ := grI_getD hg2 hfp
    obtain ⟨F, hF⟩ : ∃ F : Nat → Int, F = fun j => L.getD (l.getD j 0).toNat 0 := ⟨_, rfl⟩
    have HFF := Lib.hid hF
    have HS0 : Hid (Wrote (fun b => b = g7) w2 w2 ∧ GrI w1.heap.size w2 (.slice (some ⟨g7, 0, none⟩) l.length c7) (mixO l.length F (fun j => l.getD j 0) 0)) := by
      refine ⟨Wrote.refl _ _, ?_⟩
      rw [HMX0.out]
      exact hg2
    have HKP : Hid (∀ wr, Wrote (fun b => b = g7) w2 wr → W0.Ext wr) := fun wr hw => HX1.out.trans (hx2.wroteNew hw fun k hk hs => by omega)
    have HLO : Hid (w.heap.size + 1 < w1.heap.size) := Nat.lt_of_lt_of_le hl0 HX1.out.size
    have HC7 := Lib.hid hc7
    have HGZ : Hid (∀ wr, Wrote (fun b => b = g7) w2 wr → w1.heap.size ≤ wr.heap.size) := fun wr hw => Nat.le_trans hx2.size hw.size
    have HMF := Lib.hid (HMX.out F (fun j => by rw [hF]))
    clear hF hg2 hg71 hg72 hc7 hx2 HLI HMX HMX0
    generalize l.length = n at *
    go_wp2
    go_loopw [5, 28] (fun _ i wr => ∃ k : Nat, k ≤ n ∧ i = .int .i64 k ∧ Hid (Wrote (fun b => b = g7) w2 wr ∧ GrI w1.heap.size wr (.slice (some ⟨g7, 0, none⟩) n c7) (mixO n F (fun j => l.getD j 0) k))) (fun _ i _ => n - (intOf i).toNat)
    case atStart => exact ⟨0, Nat.zero_le _, rfl, HS0⟩
    case round =>
      clear HS0
      obtain ⟨k, hk, rfl, HS⟩ := hrel
      obtain ⟨wo, rfl⟩ : ∃ wo : World, wo = wr := ⟨_, rfl⟩
      by_cases hlt : k < n
      · have hlt' : (k : Int) < (n : Int) := by omega
        have hk0 : (0 : Int) ≤ (k : Int) := by omega
        obtain ⟨q, hq1, hq2⟩ := HF2.out k hlt
        obtain ⟨-, c0, cf, -⟩ := grI_at HS.out.2 (i := k) (by rw [mixO_len]; exact hlt)
        rw [mixO_at hlt, if_neg (Nat.lt_irrefl _), hq1] at c0
        have hFk : F k = L.getD q 0 := by rw [HFF.out]; show L.getD (l.getD k 0).toNat 0 = _; rw [hq1, Int.toNat_natCast]
        have HST : Hid (∀ x1, GrI w1.heap.size ((wo.over x1).setCell ⟨g7, k, none⟩ (.int .i64 (L.getD q 0))) (.slice (some ⟨g7, 0, none⟩) n c7) (mixO n F (fun j => l.getD j 0) (k + 1)) ∧ Wrote (fun b => b = g7) w2 ((wo.over x1).setCell ⟨g7, k, none⟩ (.int .i64 (L.getD q 0)))) := fun x1 => by
          have hx : wo.Ext (wo.over x1) := ⟨x1, rfl⟩
          have hgg : GrI w1.heap.size (wo.over x1) (.slice (some ⟨g7, 0, none⟩) n c7) (mixO n F (fun j => l.getD j 0) k) := GrowOf.ext HS.out.2 hx
          obtain ⟨-, -, -, hset⟩ := grI_at hgg (i := k) (by rw [mixO_len]; exact hlt)
          rw [← mixO_set hlt, hFk]
          exact ⟨hset _, (HS.out.1.trans (hx.wrote _)).setCell (p := ⟨g7, k, none⟩) rfl _⟩
        have hxo := HKP.out wo HS.out.1
        have z0 := (HQ0.out.ext hxo).cell0
        have lz := (HQ0.out.ext hxo).lt
        obtain ⟨b9, o9, rfl, d9⟩ := HRL.out wo hxo q hq2
        have lc := World.block_lt_of_cell? _ _ c0
        have hq0 : (0 : Int) ≤ (q : Int) := by omega
        have hq' : (q : Int) < (L.length : Int) := by omega
        clear hxo HS hq1 hFk
        generalize L.getD q 0 = zq at *
        generalize L.length = nl at *
        go_wp2_with fail
        refine wp_region_over_tail 10 (by kernel_rfl) (by kernel_rfl) ?_; simp only [List.take_succ_cons, List.take_zero, List.drop_succ_cons, List.drop_zero]; (repeat (go_big_quiet_step (fail))); refine wpQuiet_nil ?_; rintro _ ⟨x1, rfl⟩
        clear z0 lz d9
        have lc2 : g7 < wo.heap.size := lc
        go_wp2
        go_roundw
        case rel => exact ⟨k + 1, by omega, by go_num, (HST.out x1).2, (HST.out x1).1⟩
        case measure => simp [intOf]; omega
      · have hkn : k = n := by omega
        subst hkn
        have hxo := HKP.out wo HS.out.1
        have hGI := HS.out.2
        rw [HMF.out] at hGI
        have HXO := Lib.hid hxo
        have HWR := Lib.hid HS.out.1
        have HC9 := Lib.hid (HRW.out wo g7 c7 (GrowOf.own 0 hGI).row HC7.out)
        have x3 := (HQ0.out.ext hxo).cell3
        have lx := (HQ0.out.ext hxo).lt
        have x4 := HR0.out wo hxo
        clear hGI hxo HS HRW
        go_wp2_with fail
        clear x3 lx x4
        refine HC9.out.mono ?_
        rintro e w7 ⟨a8, c8, A8, C8, rfl, hx7, ho7⟩
        rw [HM1.out]
        have HX7 := Lib.hid (HXO.out.trans hx7)
        have hz7 : w1.heap.size ≤ wo.heap.size := HGZ.out wo HWR.out
        obtain ⟨w8, hw8⟩ : ∃ w8, w8 = w7.alloc (.cells #[.slice a8 n4 c8] 31) := ⟨_, rfl⟩
        have hx8 : w7.Ext w8 := by rw [hw8]; repeat (first | exact World.Ext.refl _ | exact ⟨_, rfl⟩ | assumption | refine World.Ext.over ?_ _ | refine World.Ext.drewN ?_ _ | refine World.Ext.drew ?_ | refine World.Ext.alloc ?_ _ | refine World.Ext.setCell ?_ (by simp) _)
        have HG8 : Hid (One w8 w7.heap.size 31 (.slice a8 n4 c8)) := by rw [hw8]; exact One.new _ _ _ _ rfl
        have HB8 : Hid (OwnMat w1.heap.size w8.heap.size w8 a8 A8 C8 M) := ((ho7.mat (by decide)).mono hz7 hx8.size).ext hx8
        have HX8 := Lib.hid (HX7.out.trans hx8)
        have HC8 := Lib.hid (HIS.out w8 w7.heap.size a8 c8 A8 C8 HG8.out.cell HB8.out.mat)
        clear hx7 ho7 hx8 HC9 HXO HX7 hz7 HIS
        go_wp2_with fail
        rw [← hw8]
        clear hw8
        refine HC8.out.mono ?_
        rintro e w9 ⟨rfl, hx9⟩
        have HX9 := Lib.hid (HX8.out.trans hx9)
        have HG9 := Lib.hid (HG8.out.ext hx9)
        have HB9 : Hid (OwnMat w1.heap.size w9.heap.size w9 a8 A8 C8 M) := (HB8.out.ext hx9).mono (Nat.le_refl _) hx9.size
        clear hx9 HC8 HX8 HG8 HB8
        obtain ⟨r1, r2, r3, HR⟩ := Res.storeM (lo := w.heap.size + 2) (.slice none 0 0) (HX0.out.trans HX9.out) (by omega) (HO.out.ext HX9.out) (by omega) (OwnMat.none _ _ _ none)
        go_wp2
        exact bodyPost_ret (v := .tuple #[.agg #[.slice none 0 0], .bool false]) (by simp [results, Tryz.results15, go_sem, r3]) rfl (OpRet.no HR.out.1)
  · rw [HRB.out rfl]
    have HTR2 := Lib.hid (HTR.out rfl)
    have HSM2 := Lib.hid (HSM.out rfl)
    clear HTR HSM HRB HRN hok2
    generalize sameG (rebU R) R = sb at *
    cases sb
    · show Calls _ _ _ _ (GreyRet2 w [] false)
      unfold gtV
      generalize hRB : rebM R = M at *
      generalize hRL : rebL R = rl at *
      clear hRB hRL
      obtain ⟨l, hl⟩ : ∃ l, l = R.2.2.2.flatten := ⟨_, rfl⟩
      rw [← hl] at HLI HRW HF2 hfl hfp HMX HMX0
      clear hl
      generalize hL1 : R.1 = L at *
      clear hL1
      generalize R.2.1.length = n2 at *
      generalize R.2.2.1.length = n3 at *
      generalize R.2.2.2.length = n4 at *
      generalize (R.2.2.2.getD 0 []).length = W at *
      go_enter Tryz.func15, Tryz.ntmps15
      go_wp2_with fail
      rw [← hW0]
      clear hW0
      go_wp2_with fail
      refine HTB.out.mono ?_
      rintro e w1 ⟨rfl, hx1⟩
      have HX1 := Lib.hid hx1
      clear k0 k3 lk hx1 HTB
      have k3 := (HQ0.out.ext HX1.out).cell3
      have lk := (HQ0.out.ext HX1.out).lt
      go_wp2_with fail
      clear k3 lk
      refine (HLI.out w1 HX1.out).mono ?_
      rintro e w2 ⟨v, rfl, hx2, hg2⟩
      obtain ⟨g7, c7, rfl, hg71, hg72, hc7⟩ := grI_getD hg2 hfp
      obtain ⟨F, hF⟩ : ∃ F : Nat → Int, F = fun j => L.getD (l.getD j 0).toNat 0 := ⟨_, rfl⟩
      have HFF := Lib.hid hF
      have HS0 : Hid (Wrote (fun b => b = g7) w2 w2 ∧ GrI w1.heap.size w2 (.slice (some ⟨g7, 0, none⟩) l.length c7) (mixO l.length F (fun j => l.getD j 0) 0)) := by
        refine ⟨Wrote.refl _ _, ?_⟩
        rw [HMX0.out]
        exact hg2
      have HKP : Hid (∀ wr, Wrote (fun b => b = g7) w2 wr → W0.Ext wr) := fun wr hw => HX1.out.trans (hx2.wroteNew hw fun k hk hs => by omega)
      have HLO : Hid (w.heap.size + 1 < w1.heap.size) := Nat.lt_of_lt_of_le hl0 HX1.out.size
      have HC7 := Lib.hid hc7
      have HGZ : Hid (∀ wr, Wrote (fun b => b = g7) w2 wr → w1.heap.size ≤ wr.heap.size) := fun wr hw => Nat.le_trans hx2.size hw.size
      have HMF := Lib.hid (HMX.out F (fun j => by rw [hF]))
      clear hF hg2 hg71 hg72 hc7 hx2 HLI HMX HMX0
      generalize l.length = n at *
      go_wp2
      go_loopw [5, 28] (fun _ i wr => ∃ k : Nat, k ≤ n ∧ i = .int .i64 k ∧ Hid (Wrote (fun b => b = g7) w2 wr ∧ GrI w1.heap.size wr (.slice (some ⟨g7, 0, none⟩) n c7) (mixO n F (fun j => l.getD j 0) k))) (fun _ i _ => n - (intOf i).toNat)
      case atStart => exact ⟨0, Nat.zero_le _, rfl, HS0⟩
      case round =>
        clear HS0
        obtain ⟨k, hk, rfl, HS⟩ := hrel
        obtain ⟨wo, rfl⟩ : ∃ wo : World, wo = wr := ⟨_, rfl⟩
        by_cases hlt : k < n
        · have hlt' : (k : Int) < (n : Int) := by omega
          have hk0 : (0 : Int) ≤ (k : Int) := by omega
          obtain ⟨q, hq1, hq2⟩ := HF2.out k hlt
          obtain ⟨-, c0, cf, -⟩ := grI_at HS.out.2 (i := k) (by rw [mixO_len]; exact hlt)
          rw [mixO_at hlt, if_neg (Nat.lt_irrefl _), hq1] at c0
          have hFk : F k = L.getD q 0 := by rw [HFF.out]; show L.getD (l.getD k 0).toNat 0 = _; rw [hq1, Int.toNat_natCast]
          have HST : Hid (∀ x1, GrI w1.heap.size ((wo.over x1).setCell ⟨g7, k, none⟩ (.int .i64 (L.getD q 0))) (.slice (some ⟨g7, 0, none⟩) n c7) (mixO n F (fun j => l.getD j 0) (k + 1)) ∧ Wrote (fun b => b = g7) w2 ((wo.over x1).setCell ⟨g7, k, none⟩ (.int .i64 (L.getD q 0)))) := fun x1 => by
            have hx : wo.Ext (wo.over x1) := ⟨x1, rfl⟩
            have hgg : GrI w1.heap.size (wo.over x1) (.slice (some ⟨g7, 0, none⟩) n c7) (mixO n F (fun j => l.getD j 0) k) := GrowOf.ext HS.out.2 hx
            obtain ⟨-, -, -, hset⟩ := grI_at hgg (i := k) (by rw [mixO_len]; exact hlt)
            rw [← mixO_set hlt, hFk]
            exact ⟨hset _, (HS.out.1.trans (hx.wrote _)).setCell (p := ⟨g7, k, none⟩) rfl _⟩
          have hxo := HKP.out wo HS.out.1
          have z0 := (HQ0.out.ext hxo).cell0
          have lz := (HQ0.out.ext hxo).lt
          obtain ⟨b9, o9, rfl, d9⟩ := HRL.out wo hxo q hq2
          have lc := World.block_lt_of_cell? _ _ c0
          have hq0 : (0 : Int) ≤ (q : Int) := by omega
          have hq' : (q : Int) < (L.length : Int) := by omega
          clear hxo HS hq1 hFk
          generalize L.getD q 0 = zq at *
          generalize L.length = nl at *
          go_wp2_with fail
          refine wp_region_over_tail 10 (by kernel_rfl) (by kernel_rfl) ?_; simp only [List.take_succ_cons, List.take_zero, List.drop_succ_cons, List.drop_zero]; (repeat (go_big_quiet_step (fail))); refine wpQuiet_nil ?_; rintro _ ⟨x1, rfl⟩
          clear z0 lz d9
          have lc2 : g7 < wo.heap.size := lc
          go_wp2
          go_roundw
          case rel => exact ⟨k + 1, by omega, by go_num, (HST.out x1).2, (HST.out x1).1⟩
          case measure => simp [intOf]; omega
        · have hkn : k = n := by omega
          subst hkn
          have hxo := HKP.out wo HS.out.1
          have hGI := HS.out.2
          rw [HMF.out] at hGI
          have HXO := Lib.hid hxo
          have HWR := Lib.hid HS.out.1
          have HC9 := Lib.hid (HRW.out wo g7 c7 (GrowOf.own 0 hGI).row HC7.out)
          have x3 := (HQ0.out.ext hxo).cell3
          have lx := (HQ0.out.ext hxo).lt
          have x4 := HR0.out wo hxo
          clear hGI hxo HS HRW
          go_wp2_with fail
          clear x3 lx x4
          refine HC9.out.mono ?_
          rintro e w7 ⟨a8, c8, A8, C8, rfl, hx7, ho7⟩
          rw [HM1.out]
          have HX7 := Lib.hid (HXO.out.trans hx7)
          have hz7 : w1.heap.size ≤ wo.heap.size := HGZ.out wo HWR.out
          obtain ⟨w8, hw8⟩ : ∃ w8, w8 = w7.alloc (.cells #[.slice a8 n4 c8] 31) := ⟨_, rfl⟩
          have hx8 : w7.Ext w8 := by rw [hw8]; repeat (first | exact World.Ext.refl _ | exact ⟨_, rfl⟩ | assumption | refine World.Ext.over ?_ _ | refine World.Ext.drewN ?_ _ | refine World.Ext.drew ?_ | refine World.Ext.alloc ?_ _ | refine World.Ext.setCell ?_ (by simp) _)
          have HG8 : Hid (One w8 w7.heap.size 31 (.slice a8 n4 c8)) := by rw [hw8]; exact One.new _ _ _ _ rfl
          have HB8 : Hid (OwnMat w1.heap.size w8.heap.size w8 a8 A8 C8 M) := ((ho7.mat (by decide)).mono hz7 hx8.size).ext hx8
          have HX8 := Lib.hid (HX7.out.trans hx8)
          have HC8 := Lib.hid (HIS.out w8 w7.heap.size a8 c8 A8 C8 HG8.out.cell HB8.out.mat)
          clear hx7 ho7 hx8 HC9 HXO HX7 hz7 HIS
          go_wp2_with fail
          rw [← hw8]
          clear hw8
          refine HC8.out.mono ?_
          rintro e w9 ⟨rfl, hx9⟩
          have HX9 := Lib.hid (HX8.out.trans hx9)
          have HG9 := Lib.hid (HG8.out.ext hx9)
          have HB9 : Hid (OwnMat w1.heap.size w9.heap.size w9 a8 A8 C8 M) := (HB8.out.ext hx9).mono (Nat.le_refl _) hx9.size
          clear hx9 HC8 HX8 HG8 HB8
          have HC9 := Lib.hid (HTR2.out w9 w7.heap.size a8 c8 A8 C8 HG9.out.cell HB9.out.mat)
          clear HTR2
          go_wp2_with fail
          refine HC9.out.mono ?_
          rintro e w10 ⟨b1, b2, b3, b4, d1, d2, d3, d4, B, D, rfl, hx10, ho10⟩
          unfold gtV
          obtain ⟨w11, hw11⟩ : ∃ w11, w11 = w10.alloc (.cells #[.slice b1 (rebU R).1.length d1, .slice b2 (rebU R).2.1.length d2, .slice b3 (rebU R).2.2.1.length d3, .slice b4 (rebU R).2.2.2.length d4] 44) := ⟨_, rfl⟩
          have hx11 : w9.Ext w11 := by rw [hw11]; exact hx10.trans (by repeat (first | exact World.Ext.refl _ | exact ⟨_, rfl⟩ | assumption | refine World.Ext.over ?_ _ | refine World.Ext.drewN ?_ _ | refine World.Ext.drew ?_ | refine World.Ext.alloc ?_ _ | refine World.Ext.setCell ?_ (by simp) _))
          have HX11 := Lib.hid (HX9.out.trans hx11)
          have HG11 := Lib.hid (HG9.out.ext hx11)
          have HB11 : Hid (OwnMat w1.heap.size w11.heap.size w11 a8 A8 C8 M) := (HB9.out.ext hx11).mono (Nat.le_refl _) hx11.size
          have HC11 := Lib.hid (HSM2.out w11 w10.heap.size b1 b2 b3 b4 d1 d2 d3 d4 B D HX11.out (by rw [hw11]; exact ho10.row.ext (by repeat (first | exact World.Ext.refl _ | exact ⟨_, rfl⟩ | assumption | refine World.Ext.over ?_ _ | refine World.Ext.drewN ?_ _ | refine World.Ext.drew ?_ | refine World.Ext.alloc ?_ _ | refine World.Ext.setCell ?_ (by simp) _))) (by rw [hw11]; exact Qua.new _ _ _ _ _ _ _ rfl))
          clear hx10 ho10 hx11 HC9 HX9 HG9 HB9 HSM2
          go_wp2_with fail
          rw [← hw11]
          clear hw11
          refine HC11.out.mono ?_
          rintro e w13 ⟨rfl, hx13⟩
          have HX13 := Lib.hid (HX11.out.trans hx13)
          have HG13 := Lib.hid (HG11.out.ext hx13)
          have HB13 : Hid (OwnMat w1.heap.size w13.heap.size w13 a8 A8 C8 M) := (HB11.out.ext hx13).mono (Nat.le_refl _) hx13.size
          clear hx13 HC11 HX11 HG11 HB11
          obtain ⟨r1, r2, r3, HR⟩ := Res.storeM (lo := w.heap.size + 2) (.slice none 0 0) (HX0.out.trans HX13.out) (by omega) (HO.out.ext HX13.out) (by omega) (OwnMat.none _ _ _ none)
          go_wp2
          exact bodyPost_ret (v := .tuple #[.agg #[.slice none 0 0], .bool false]) (by simp [results, Tryz.results15, go_sem, r3]) rfl (OpRet.no HR.out.1)
    · show Calls _ _ _ _ (GreyRet2 w (rebM R) true)
      unfold gtV
      generalize hRB : rebM R = M at *
      generalize hRL : rebL R = rl at *
      clear hRB hRL
      obtain ⟨l, hl⟩ : ∃ l, l = R.2.2.2.flatten := ⟨_, rfl⟩
      rw [← hl] at HLI HRW HF2 hfl hfp HMX HMX0
      clear hl
      generalize hL1 : R.1 = L at *
      clear hL1
      generalize R.2.1.length = n2 at *
      generalize R.2.2.1.length = n3 at *
      generalize R.2.2.2.length = n4 at *
      generalize (R.2.2.2.getD 0 []).length = W at *
      go_enter Tryz.func15, Tryz.ntmps15
      go_wp2_with fail
      rw [← hW0]
      clear hW0
      go_wp2_with fail
      refine HTB.out.mono ?_
      rintro e w1 ⟨rfl, hx1⟩
      have HX1 := Lib.hid hx1
      clear k0 k3 lk hx1 HTB
      have k3 := (HQ0.out.ext HX1.out).cell3
      have lk := (HQ0.out.ext HX1.out).lt
      go_wp2_with fail
      clear k3 lk
      refine (HLI.out w1 HX1.out).mono ?_
      rintro e w2 ⟨v, rfl, hx2, hg2⟩
      obtain ⟨g7, c7, rfl, hg71, hg72, hc7⟩ := grI_getD hg2 hfp
      obtain ⟨F, hF⟩ : ∃ F : Nat → Int, F = fun j => L.getD (l.getD j 0).toNat 0 := ⟨_, rfl⟩
      have HFF := Lib.hid hF
      have HS0 : Hid (Wrote (fun b => b = g7) w2 w2 ∧ GrI w1.heap.size w2 (.slice (some ⟨g7, 0, none⟩) l.length c7) (mixO l.length F (fun j => l.getD j 0) 0)) := by
        refine ⟨Wrote.refl _ _, ?_⟩
        rw [HMX0.out]
        exact hg2
      have HKP : Hid (∀ wr, Wrote (fun b => b = g7) w2 wr → W0.Ext wr) := fun wr hw => HX1.out.trans (hx2.wroteNew hw fun k hk hs => by omega)
      have HLO : Hid (w.heap.size + 1 < w1.heap.size) := Nat.lt_of_lt_of_le hl0 HX1.out.size
      have HC7 := Lib.hid hc7
      have HGZ : Hid (∀ wr, Wrote (fun b => b = g7) w2 wr → w1.heap.size ≤ wr.heap.size) := fun wr hw => Nat.le_trans hx2.size hw.size
      have HMF := Lib.hid (HMX.out F (fun j => by rw [hF]))
      clear hF hg2 hg71 hg72 hc7 hx2 HLI HMX HMX0
      generalize l.length = n at *
      go_wp2
      go_loopw [5, 28] (fun _ i wr => ∃ k : Nat, k ≤ n ∧ i = .int .i64 k ∧ Hid (Wrote (fun b => b = g7) w2 wr ∧ GrI w1.heap.size wr (.slice (some ⟨g7, 0, none⟩) n c7) (mixO n F (fun j => l.getD j 0) k))) (fun _ i _ => n - (intOf i).toNat)
      case atStart => exact ⟨0, Nat.zero_le _, rfl, HS0⟩
      case round =>
        clear HS0
        obtain ⟨k, hk, rfl, HS⟩ := hrel
        obtain ⟨wo, rfl⟩ : ∃ wo : World, wo = wr := ⟨_, rfl⟩
        by_cases hlt : k < n
        · have hlt' : (k : Int) < (n : Int) := by omega
          have hk0 : (0 : Int) ≤ (k : Int) := by omega
          obtain ⟨q, hq1, hq2⟩ := HF2.out k hlt
          obtain ⟨-, c0, cf, -⟩ := grI_at HS.out.2 (i := k) (by rw [mixO_len]; exact hlt)
          rw [mixO_at hlt, if_neg (Nat.lt_irrefl _), hq1] at c0
          have hFk : F k = L.getD q 0 := by rw [HFF.out]; show L.getD (l.getD k 0).toNat 0 = _; rw [hq1, Int.toNat_natCast]
          have HST : Hid (∀ x1, GrI w1.heap.size ((wo.over x1).setCell ⟨g7, k, none⟩ (.int .i64 (L.getD q 0))) (.slice (some ⟨g7, 0, none⟩) n c7) (mixO n F (fun j => l.getD j 0) (k + 1)) ∧ Wrote (fun b => b = g7) w2 ((wo.over x1).setCell ⟨g7, k, none⟩ (.int .i64 (L.getD q 0)))) := fun x1 => by
            have hx : wo.Ext (wo.over x1) := ⟨x1, rfl⟩
            have hgg : GrI w1.heap.size (wo.over x1) (.slice (some ⟨g7, 0, none⟩) n c7) (mixO n F (fun j => l.getD j 0) k) := GrowOf.ext HS.out.2 hx
            obtain ⟨-, -, -, hset⟩ := grI_at hgg (i := k) (by rw [mixO_len]; exact hlt)
            rw [← mixO_set hlt, hFk]
            exact ⟨hset _, (HS.out.1.trans (hx.wrote _)).setCell (p := ⟨g7, k, none⟩) rfl _⟩
          have hxo := HKP.out wo HS.out.1
          have z0 := (HQ0.out.ext hxo).cell0
          have lz := (HQ0.out.ext hxo).lt
          obtain ⟨b9, o9, rfl, d9⟩ := HRL.out wo hxo q hq2
          have lc := World.block_lt_of_cell? _ _ c0
          have hq0 : (0 : Int) ≤ (q : Int) := by omega
          have hq' : (q : Int) < (L.length : Int) := by omega
          clear hxo HS hq1 hFk
          generalize L.getD q 0 = zq at *
          generalize L.length = nl at *
          go_wp2_with fail
          refine wp_region_over_tail 10 (by kernel_rfl) (by kernel_rfl) ?_; simp only [List.take_succ_cons, List.take_zero, List.drop_succ_cons, List.drop_zero]; (repeat (go_big_quiet_step (fail))); refine wpQuiet_nil ?_; rintro _ ⟨x1, rfl⟩
          clear z0 lz d9
          have lc2 : g7 < wo.heap.size := lc
          go_wp2
          go_roundw
          case rel => exact ⟨k + 1, by omega, by go_num, (HST.out x1).2, (HST.out x1).1⟩
          case measure => simp [intOf]; omega
        · have hkn : k = n := by omega
          subst hkn
          have hxo := HKP.out wo HS.out.1
          have hGI := HS.out.2
          rw [HMF.out] at hGI
          have HXO := Lib.hid hxo
          have HWR := Lib.hid HS.out.1
          have HC9 := Lib.hid (HRW.out wo g7 c7 (GrowOf.own 0 hGI).row HC7.out)
          have x3 := (HQ0.out.ext hxo).cell3
          have lx := (HQ0.out.ext hxo).lt
          have x4 := HR0.out wo hxo
          clear hGI hxo HS HRW
          go_wp2_with fail
          clear x3 lx x4
          refine HC9.out.mono ?_
          rintro e w7 ⟨a8, c8, A8, C8, rfl, hx7, ho7⟩
          rw [HM1.out]
          have HX7 := Lib.hid (HXO.out.trans hx7)
          have hz7 : w1.heap.size ≤ wo.heap.size := HGZ.out wo HWR.out
          obtain ⟨w8, hw8⟩ : ∃ w8, w8 = w7.alloc (.cells #[.slice a8 n4 c8] 31) := ⟨_, rfl⟩
          have hx8 : w7.Ext w8 := by rw [hw8]; repeat (first | exact World.Ext.refl _ | exact ⟨_, rfl⟩ | assumption | refine World.Ext.over ?_ _ | refine World.Ext.drewN ?_ _ | refine World.Ext.drew ?_ | refine World.Ext.alloc ?_ _ | refine World.Ext.setCell ?_ (by simp) _)
          have HG8 : Hid (One w8 w7.heap.size 31 (.slice a8 n4 c8)) := by rw [hw8]; exact One.new _ _ _ _ rfl
          have HB8 : Hid (OwnMat w1.heap.size w8.heap.size w8 a8 A8 C8 M) := ((ho7.mat (by decide)).mono hz7 hx8.size).ext hx8
          have HX8 := Lib.hid (HX7.out.trans hx8)
          have HC8 := Lib.hid (HIS.out w8 w7.heap.size a8 c8 A8 C8 HG8.out.cell HB8.out.mat)
          clear hx7 ho7 hx8 HC9 HXO HX7 hz7 HIS
          go_wp2_with fail
          rw [← hw8]
          clear hw8
          refine HC8.out.mono ?_
          rintro e w9 ⟨rfl, hx9⟩
          have HX9 := Lib.hid (HX8.out.trans hx9)
          have HG9 := Lib.hid (HG8.out.ext hx9)
          have HB9 : Hid (OwnMat w1.heap.size w9.heap.size w9 a8 A8 C8 M) := (HB8.out.ext hx9).mono (Nat.le_refl _) hx9.size
          clear hx9 HC8 HX8 HG8 HB8
          have HC9 := Lib.hid (HTR2.out w9 w7.heap.size a8 c8 A8 C8 HG9.out.cell HB9.out.mat)
          clear HTR2
          go_wp2_with fail
          refine HC9.out.mono ?_
          rintro e w10 ⟨b1, b2, b3, b4, d1, d2, d3, d4, B, D, rfl, hx10, ho10⟩
          unfold gtV
          obtain ⟨w11, hw11⟩ : ∃ w11, w11 = w10.alloc (.cells #[.slice b1 (rebU R).1.length d1, .slice b2 (rebU R).2.1.length d2, .slice b3 (rebU R).2.2.1.length d3, .slice b4 (rebU R).2.2.2.length d4] 44) := ⟨_, rfl⟩
          have hx11 : w9.Ext w11 := by rw [hw11]; exact hx10.trans (by repeat (first | exact World.Ext.refl _ | exact ⟨_, rfl⟩ | assumption | refine World.Ext.over ?_ _ | refine World.Ext.drewN ?_ _ | refine World.Ext.drew ?_ | refine World.Ext.alloc ?_ _ | refine World.Ext.setCell ?_ (by simp) _))
          have HX11 := Lib.hid (HX9.out.trans hx11)
          have HG11 := Lib.hid (HG9.out.ext hx11)
          have HB11 : Hid (OwnMat w1.heap.size w11.heap.size w11 a8 A8 C8 M) := (HB9.out.ext hx11).mono (Nat.le_refl _) hx11.size
          have HC11 := Lib.hid (HSM2.out w11 w10.heap.size b1 b2 b3 b4 d1 d2 d3 d4 B D HX11.out (by rw [hw11]; exact ho10.row.ext (by repeat (first | exact World.Ext.refl _ | exact ⟨_, rfl⟩ | assumption | refine World.Ext.over ?_ _ | refine World.Ext.drewN ?_ _ | refine World.Ext.drew ?_ | refine World.Ext.alloc ?_ _ | refine World.Ext.setCell ?_ (by simp) _))) (by rw [hw11]; exact Qua.new _ _ _ _ _ _ _ rfl))
          clear hx10 ho10 hx11 HC9 HX9 HG9 HB9 HSM2
          go_wp2_with fail
          rw [← hw11]
          clear hw11
          refine HC11.out.mono ?_
          rintro e w13 ⟨rfl, hx13⟩
          have HX13 := Lib.hid (HX11.out.trans hx13)
          have HG13 := Lib.hid (HG11.out.ext hx13)
          have HB13 : Hid (OwnMat w1.heap.size w13.heap.size w13 a8 A8 C8 M) := (HB11.out.ext hx13).mono (Nat.le_refl _) hx13.size
          clear hx13 HC11 HX11 HG11 HB11
          obtain ⟨r1, r2, r3, HR⟩ := Res.storeM (.slice a8 n4 c8) (HX0.out.trans HX13.out) (by omega) (HO.out.ext HX13.out) HLO.out HB13.out
          have s1 := HG13.out.cell
          have s2 := HG13.out.lt
          go_wp2
          exact bodyPost_ret (v := .tuple #[.agg #[.slice a8 n4 c8], .bool true]) (by simp [results, Tryz.results15, go_sem, r3]) rfl ⟨a8, c8, A8, C8, by rw [HM1.out], HR.out.1, HR.out.2⟩
end Go.Proofs.YtmmanehdmnkekaaGreat
