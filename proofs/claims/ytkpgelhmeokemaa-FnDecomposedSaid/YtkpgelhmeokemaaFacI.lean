/- The program's FactorElement. -/
import Derived.Test.YtkpgelhmeokemaaElmH
import Derived.Deep.RegionHeld3
import Derived.Deep.DeepCutAuto
namespace Go.Proofs.Ytkpgelhmeokemaa
open Go Go.RowKit
theorem row_two {w : World} {p : Nat} {x0 y0 x1 y1 : Int} (h : w.heap[p]? = some (.cells #[.int .i64 x0, .int .i64 y0, .int .i64 x1, .int .i64 y1] 45 (0, 0))) : RowP w (some ⟨p, 0, none⟩) [(x0, y0), (x1, y1)] :=
  RowP.of_at fun i hi => by
    have hi2 : i = 0 ∨ i = 1 := by simp only [List.length_cons, List.length_nil] at hi; omega
    rcases hi2 with rfl | rfl
    · exact ⟨p, 0, rfl, by simp [World.cell?, h], by simp [World.cell?, h]⟩
    · exact ⟨p, 0, rfl, by simp [World.cell?, h], by simp [World.cell?, h]⟩
theorem One.both {w W1 : World} {p q : Nat} {T : TypeId} {u v : Value} (a b : Value) (hX : w.Ext W1) (hp : w.heap.size ≤ p) (hq : w.heap.size ≤ q) (h1 : One W1 p T u) (h2 : One W1 q T v) (hne : p ≠ q) :
    W1.cell? ⟨p, 0, none⟩ = some u ∧ W1.frozen? ⟨p, 0, none⟩ = false ∧ (W1.setCell ⟨p, 0, none⟩ a).cell? ⟨q, 0, none⟩ = some v ∧ (W1.setCell ⟨p, 0, none⟩ a).frozen? ⟨q, 0, none⟩ = false ∧
    ((W1.setCell ⟨p, 0, none⟩ a).setCell ⟨q, 0, none⟩ b).cell? ⟨p, 0, none⟩ = some a ∧ ((W1.setCell ⟨p, 0, none⟩ a).setCell ⟨q, 0, none⟩ b).cell? ⟨q, 0, none⟩ = some b ∧ Hid (w.Ext ((W1.setCell ⟨p, 0, none⟩ a).setCell ⟨q, 0, none⟩ b)) ∧ p < W1.heap.size ∧ q < W1.heap.size := by
  have k2 : One (W1.setCell ⟨p, 0, none⟩ a) q T v := h2.other hne _
  have k3 : One ((W1.setCell ⟨p, 0, none⟩ a).setCell ⟨q, 0, none⟩ b) p T a := (h1.set a).other (Ne.symm hne) _
  exact ⟨h1.cell, h1.free, k2.cell, k2.free, k3.cell, (k2.set b).cell, (hX.setCell (p := ⟨p, 0, none⟩) hp _).setCell (p := ⟨q, 0, none⟩) hq _, h1.lt, h2.lt⟩
theorem ordJ_pos {p q : Int × Int} : 0 < ordJ p q ↔ ordJ q p < 0 := by
  unfold ordJ cmpJ
  split <;> split <;> (repeat' split) <;> (repeat' split at *) <;> omega
/-- Whether there are factors, and which. -/
def FacRet (w : World) (es : List (Int × Int)) (e : Ending) (w' : World) : Prop :=
  (∃ k, k < 45 ∧ facG es k = true ∧ ∃ a c b d, e = .returned (.tuple #[.agg #[.slice a 2 c], .agg #[.slice b (facB es (facC k)).length d], .bool true]) ∧ w.Ext w' ∧ RowP w' a [(0, 0), facC k] ∧ RowP w' b (facB es (facC k))) ∨
  (facN es 45 ∧ e = .returned (.tuple #[.agg #[.slice none 0 0], .agg #[.slice none 0 0], .bool false]) ∧ w.Ext w')
theorem facBt_yes {es : List (Int × Int)} {o : Int × Int} {k : Nat} (hk : k < es.length) (h : ((es.getD k (0, 0)).1 + o.1, (es.getD k (0, 0)).2 + o.2) ∈ es) : (es.take (k + 1)).filter (fun q => decide ((q.1 + o.1, q.2 + o.2) ∈ es)) = (es.take k).filter (fun q => decide ((q.1 + o.1, q.2 + o.2) ∈ es)) ++ [es.getD k (0, 0)] := by
  rw [facB_take hk, if_pos h]
theorem facBt_no {es : List (Int × Int)} {o : Int × Int} {k : Nat} (hk : k < es.length) (h : ¬ ((es.getD k (0, 0)).1 + o.1, (es.getD k (0, 0)).2 + o.2) ∈ es) : (es.take (k + 1)).filter (fun q => decide ((q.1 + o.1, q.2 + o.2) ∈ es)) = (es.take k).filter (fun q => decide ((q.1 + o.1, q.2 + o.2) ∈ es)) := by
  rw [facB_take hk, if_neg h, List.append_nil]
def facT (es : List (Int × Int)) (o : Int × Int) (k : Nat) : List (Int × Int) := (es.take k).filter fun q => decide ((q.1 + o.1, q.2 + o.2) ∈ es)
theorem facT_all (es : List (Int × Int)) (o : Int × Int) : facT es o es.length = facB es o := by unfold facT facB; rw [List.take_length]
theorem facT_len (es : List (Int × Int)) (o : Int × Int) (k : Nat) : (facT es o k).length ≤ es.length := Nat.le_trans (List.length_filter_le _ _) (by rw [List.length_take]; omega)
set_option maxRecDepth 8000 in
set_option maxHeartbeats 3200000 in
theorem implFactor_any (a : Option Addr) (c : Nat) (es : List (Int × Int)) (w : World) (he : elemOk es = true) (hm : RowP w a es) :
    Calls Try.prog 22 #[.agg #[.slice a es.length c]] w (FacRet w es) := by
  obtain ⟨iw, hiw, hz0, hz1, hz2⟩ := info_parts Try.infoSpotG
  obtain ⟨W0, hW0⟩ : ∃ W0, W0 = ((w.alloc (.cells #[.slice a es.length c] 48)).alloc (.cells #[.slice none 0 0] 48)).alloc (.cells #[.slice none 0 0] 48) := ⟨_, rfl⟩
  have hx0 : w.Ext W0 := by rw [hW0]; repeat (first | exact World.Ext.refl _ | exact ⟨_, rfl⟩ | assumption | refine World.Ext.over ?_ _ | refine World.Ext.drewN ?_ _ | refine World.Ext.drew ?_ | refine World.Ext.alloc ?_ _ | refine World.Ext.setCell ?_ (by simp) _)
  have ho2 : One W0 (w.heap.size + 1) 48 (.slice none 0 0) := by rw [hW0]; exact (One.new (w.alloc (.cells #[.slice a es.length c] 48)) _ _ _ (by simp)).ext (by repeat (first | exact World.Ext.refl _ | exact ⟨_, rfl⟩ | assumption | refine World.Ext.over ?_ _ | refine World.Ext.drewN ?_ _ | refine World.Ext.drew ?_ | refine World.Ext.alloc ?_ _ | refine World.Ext.setCell ?_ (by simp) _))
  have ho3 : One W0 (w.heap.size + 1 + 1) 48 (.slice none 0 0) := by rw [hW0]; exact One.new _ _ _ _ (by simp)
  have d0 : W0.cell? ⟨w.heap.size, 0, none⟩ = some (.slice a es.length c) := by rw [hW0]; simp [go_sem]
  have HD : Hid (∀ w', W0.Ext w' → w'.cell? ⟨w.heap.size, 0, none⟩ = some (.slice a es.length c)) := fun w' h => h.cell d0
  have HV := Lib.hid (validElement_any a c es W0 (elem_row he).2 (RowP.ext hm hx0) true he)
  have HMX : Hid (∀ w', W0.Ext w' → RowP w' a es) := fun w' h => (RowP.ext (RowP.ext hm hx0) h)
  have HBX : Hid (∀ k, k < es.length → -4 ≤ (es.getD k (0, 0)).1 ∧ (es.getD k (0, 0)).1 ≤ 4 ∧ -4 ≤ (es.getD k (0, 0)).2 ∧ (es.getD k (0, 0)).2 ≤ 4) := fun k hk => by have := offOk_iff.1 (elemOk_off he (getD_mem hk)); omega
  have HOK := Lib.hid he
  have HX0 := Lib.hid hx0
  have H23 := Lib.hid (And.intro ho2 ho3)
  have hel := (elem_row he).1
  have HW1 : w.heap.size + 1 + 1 < W0.heap.size := ho3.lt
  clear hx0 ho2 ho3 hm he
  have l0 := World.block_lt_of_cell? _ _ d0
  go_enter Try.func22, Try.ntmps22
  go_upto_region 1 with fail
  rw [← hW0]
  clear hW0
  go_wp2_with fail
  refine HV.out.mono ?_
  rintro e w1 ⟨rfl, hx1⟩
  have HX1 : Hid (W0.Ext w1) := hx1
  clear d0 hx1 HV l0
  go_wp2
  go_loopw [5, 6, 7, 8, 9, 11] (fun y _ _ _ _ _ wr => ∃ j : Nat, j ≤ 5 ∧ y = .int .i64 j ∧ Hid (W0.Ext wr) ∧ Hid (facN es (j * 9))) (fun y _ _ _ _ _ _ => 5 - (intOf y).toNat)
  case atStart => exact ⟨0, by omega, rfl, HX1, facN_zero es⟩
  case round =>
    clear HX1
    obtain ⟨j, hj, rfl, HX, HN⟩ := hrel
    obtain ⟨wo, rfl⟩ : ∃ wo : World, wo = wr := ⟨_, rfl⟩
    by_cases hlty : j < 5
    · have hlty' : (j : Int) ≤ 4 := by omega
      have hj0 : (0 : Int) ≤ (j : Int) := by omega
      go_wp2
      go_loopw [6, 7, 8, 9, 11] (fun x _ _ _ _ wr => ∃ (i : Nat) (X : Int), X = (i : Int) - 4 ∧ i ≤ 9 ∧ x = .int .i64 X ∧ Hid (W0.Ext wr) ∧ Hid (facN es (j * 9 + i))) (fun x _ _ _ _ _ => (5 - intOf x).toNat)
      case atStart => exact ⟨0, -4, rfl, by omega, rfl, HX, HN⟩
      case round =>
        clear HX HN
        obtain ⟨i, X, hX, hi, rfl, HX, HN⟩ := hrel
        obtain ⟨wp, rfl⟩ : ∃ wp : World, wp = wr := ⟨_, rfl⟩
        by_cases hltx : i < 9
        · have hltx' : X ≤ 4 := by omega
          have hX4 : -4 ≤ X := by omega
          have hc : facC (j * 9 + i) = (X, (j : Int)) := by rw [facC_at hltx, hX]
          have HCC := Lib.hid hc
          have HXX := Lib.hid hX
          clear hX hc
          obtain ⟨w2, hw2⟩ : ∃ w2, w2 = wp.alloc (.cells #[.int .i64 X, .int .i64 (j : Int)] 45) := ⟨_, rfl⟩
          have hx2 : wp.Ext w2 := by rw [hw2]; repeat (first | exact World.Ext.refl _ | exact ⟨_, rfl⟩ | assumption | refine World.Ext.over ?_ _ | refine World.Ext.drewN ?_ _ | refine World.Ext.drew ?_ | refine World.Ext.alloc ?_ _ | refine World.Ext.setCell ?_ (by simp) _)
          have htw : Two w2 wp.heap.size 45 (.int .i64 X) (.int .i64 (j : Int)) := by rw [hw2]; exact Two.new _ _ _ _ _ rfl
          have HX2 := Lib.hid (HX.out.trans hx2)
          obtain ⟨t0, ht0⟩ : ∃ t, ordI (X, (j : Int)) (0, 0) = t := ⟨_, rfl⟩
          have HT := Lib.hid ht0
          have HSO := Lib.hid (spotOrder_any (X, (j : Int)) (0, 0) w2 t0 ht0)
          have e0 := htw.cell0
          have e1 := htw.cell1
          have HTW := Lib.hid htw
          have lw := htw.lt
          clear htw hx2 HX ht0
          go_upto_region 10 with fail
          rw [← hw2]
          clear hw2
          generalize wp.heap.size = p7 at *
          go_wp2_with fail
          refine HSO.out.mono ?_
          rintro e w3 ⟨rfl, hx3⟩
          have HX3 := Lib.hid (HX2.out.trans hx3)
          have HTW3 := Lib.hid (HTW.out.ext hx3)
          clear e0 e1 lw hx3 HSO HTW HX2
          by_cases htp : t0 ≤ 0
          · have HN1 : Hid (facN es (j * 9 + (i + 1))) := facN_next HN.out (by
              show facG es (j * 9 + i) = false
              unfold facG
              rw [HCC.out, decide_eq_false (show ¬ 0 < ordJ (X, (j : Int)) (0, 0) by have : ordJ (X, (j : Int)) (0, 0) = t0 := HT.out; omega), Bool.false_and])
            clear HN HT
            go_wp2
            go_roundw
            case rel => exact ⟨i + 1, X + 1, by have := HXX.out; omega, by omega, by go_num, HX3, HN1⟩
            case measure => simp [intOf]; omega
          · obtain ⟨w4, hw4⟩ : ∃ w4, w4 = w3.alloc (.cells #[.int .i64 0, .int .i64 0, .int .i64 X, .int .i64 (j : Int)] 45) := ⟨_, rfl⟩
            have hx4 : w3.Ext w4 := by rw [hw4]; repeat (first | exact World.Ext.refl _ | exact ⟨_, rfl⟩ | assumption | refine World.Ext.over ?_ _ | refine World.Ext.drewN ?_ _ | refine World.Ext.drew ?_ | refine World.Ext.alloc ?_ _ | refine World.Ext.setCell ?_ (by simp) _)
            have hb8 : w4.heap[w3.heap.size]? = some (.cells #[.int .i64 0, .int .i64 0, .int .i64 X, .int .i64 (j : Int)] 45 (0, 0)) := by rw [hw4]; show (w3.heap.push _)[w3.heap.size]? = _; simp
            obtain ⟨K, hK⟩ : ∃ K : Nat → Obj → Prop, K = fun p ob => (p = p7 ∧ ob = .cells #[.int .i64 X, .int .i64 (j : Int)] 45 (0, 0)) ∨ (p = w3.heap.size ∧ ob = .cells #[.int .i64 0, .int .i64 0, .int .i64 X, .int .i64 (j : Int)] 45 (0, 0)) := ⟨_, rfl⟩
            have HK7 : Hid (K p7 (.cells #[.int .i64 X, .int .i64 (j : Int)] 45 (0, 0))) := by show K _ _; rw [hK]; exact .inl ⟨rfl, rfl⟩
            have HK8 : Hid (K w3.heap.size (.cells #[.int .i64 0, .int .i64 0, .int .i64 X, .int .i64 (j : Int)] 45 (0, 0))) := by show K _ _; rw [hK]; exact .inr ⟨rfl, rfl⟩
            have HS0 : Hid (SmKp W0 K (facT es (X, (j : Int)) 0) (.slice (some ⟨w4.heap.size, 0, none⟩) 0 0) (w4.alloc (.cells #[] 45))) := by
              refine ⟨SmSt.start (HX3.out.trans hx4), fun p ob hk => ?_⟩
              have hxa : w4.Ext (w4.alloc (.cells #[] 45)) := by repeat (first | exact World.Ext.refl _ | exact ⟨_, rfl⟩ | assumption | refine World.Ext.over ?_ _ | refine World.Ext.drewN ?_ _ | refine World.Ext.drew ?_ | refine World.Ext.alloc ?_ _ | refine World.Ext.setCell ?_ (by simp) _)
              rw [hK] at hk
              have hz4 : w4.heap.size = w3.heap.size + 1 := by rw [hw4]; simp
              rcases hk with ⟨rfl, rfl⟩ | ⟨rfl, rfl⟩
              · have h7 := (HTW3.out.ext hx4)
                refine ⟨h7.ext hxa, ?_⟩
                have := h7.lt
                simp only [Value.ownBlock, ne_eq, Option.some.injEq]
                omega
              · refine ⟨by rw [hxa.block (Array.getElem?_eq_some_iff.1 hb8).1]; exact hb8, ?_⟩
                simp only [Value.ownBlock, ne_eq, Option.some.injEq]
                omega
            have e0 := HTW3.out.cell0
            have e1 := HTW3.out.cell1
            have le := HTW3.out.lt
            have dA := HD.out _ HS0.out.st.x
            have lA := World.block_lt_of_cell? _ _ (HD.out w3 HX3.out)
            have hz4 : w4.heap.size = w3.heap.size + 1 := by rw [hw4]; simp
            rw [hz4] at HS0
            have HP8 : Hid (W0.heap.size ≤ w3.heap.size) := HX3.out.size
            have HTP : Hid (0 < ordJ (X, (j : Int)) (0, 0)) := by
              have h : ordJ (X, (j : Int)) (0, 0) = t0 := HT.out
              show 0 < ordJ (X, (j : Int)) (0, 0)
              omega
            clear hx4 hb8 hK HTW3 HT hz4
            go_upto_region 12 with fail
            rw [← hw4]
            clear hw4 e0 e1 le lA
            generalize w3.heap.size = p8 at *
            clear HX3
            have hes0 : (0 : Int) ≤ (es.length : Int) := by omega
            go_wp2
            go_loopw [9, 11, 39] (fun v _ i wr => ∃ k : Nat, k ≤ es.length ∧ i = .int .i64 k ∧ Hid (SmKp W0 K (facT es (X, (j : Int)) k) v wr)) (fun _ _ i _ => es.length - (intOf i).toNat)
            case atStart => exact ⟨0, Nat.zero_le _, rfl, HS0⟩
            case round =>
              clear HS0 dA
              obtain ⟨k, hk, rfl, HS⟩ := hrel
              obtain ⟨wq, rfl⟩ : ∃ wq : World, wq = wr := ⟨_, rfl⟩
              have hk0 : (0 : Int) ≤ (k : Int) := by omega
              by_cases hlt : k < es.length
              · have hlt' : (k : Int) < (es.length : Int) := by omega
                obtain ⟨b1, o1, rfl, hc0, hc1⟩ := (HMX.out wq HS.out.st.x).at hlt
                have hbx := HBX.out k hlt
                have HYES := Lib.hid (fun h => facBt_yes (o := (X, (j : Int))) hlt h)
                have HNO := Lib.hid (fun h => facBt_no (o := (X, (j : Int))) hlt h)
                obtain ⟨q, hq⟩ : ∃ q, q = es.getD k (0, 0) := ⟨_, rfl⟩
                rw [← hq] at hc0 hc1 hbx HYES HNO
                clear hq
                obtain ⟨u, v⟩ := q
                dsimp only at hc0 hc1 hbx HYES HNO
                obtain ⟨w5, hw5⟩ : ∃ w5, w5 = wq.alloc (.cells #[.int .i64 u, .int .i64 v] 45) := ⟨_, rfl⟩
                have hx5 : wq.Ext w5 := by rw [hw5]; repeat (first | exact World.Ext.refl _ | exact ⟨_, rfl⟩ | assumption | refine World.Ext.over ?_ _ | refine World.Ext.drewN ?_ _ | refine World.Ext.drew ?_ | refine World.Ext.alloc ?_ _ | refine World.Ext.setCell ?_ (by simp) _)
                have f0 : w5.cell? ⟨wq.heap.size, 0, none⟩ = some (.int .i64 u) := by rw [hw5]; simp [go_sem]
                have f1 : w5.cell? ⟨wq.heap.size, 1, none⟩ = some (.int .i64 v) := by rw [hw5]; simp [go_sem]
                have HS5 := Lib.hid (HS.out.ext hx5)
                obtain ⟨e0, e1⟩ := HS5.out.two HK7.out
                have d0 := HD.out w5 HS5.out.st.x
                have lf := World.block_lt_of_cell? _ _ f0
                have HPL := Lib.hid (fun x => plus_any u v X (j : Int) (w5.over x) (by omega) (by omega) (by omega) (by omega))
                have HCO := Lib.hid (fun x => containsS_any (some ⟨b1, o1, none⟩) c es (u + X) (v + (j : Int)) (w5.over x) (by omega) (HMX.out (w5.over x) (HS5.out.st.x.trans ⟨x, rfl⟩)))
                have HF5 : Hid (∀ x, (w5.over x).cell? ⟨wq.heap.size, 0, none⟩ = some (.int .i64 u) ∧ (w5.over x).cell? ⟨wq.heap.size, 1, none⟩ = some (.int .i64 v)) := fun x => ⟨World.Ext.cell ⟨x, rfl⟩ f0, World.Ext.cell ⟨x, rfl⟩ f1⟩
                clear hx5 HS
                go_upto_region 15 with fail
                rw [← hw5]
                clear hw5 hc0 hc1
                generalize wq.heap.size = p11 at *
                go_wp2_with fail
                by_cases hin : (u + X, v + (j : Int)) ∈ es
                · have HT : Hid (facT es (X, (j : Int)) (k + 1) = facT es (X, (j : Int)) k ++ [(u, v)]) := HYES.out hin
                  rw [decide_eq_true hin] at HCO
                  clear HYES HNO hin
                  refine wp_region_over_lit (by kernel_rfl) (by kernel_rfl) ?_; (repeat (go_big_quiet_step ((first | (go_at_call 59; exact Calls.over_of (HPL.out _)) | (go_at_call 58; exact Calls.over_of (HCO.out _)))))); refine wpQuiet_nil ?_; rintro _ ⟨x1, rfl⟩
                  clear f0 f1 e0 e1 d0 lf HPL HCO
                  obtain ⟨f0, f1⟩ := HF5.out x1
                  have lf := World.block_lt_of_cell? _ _ f0
                  have HS6 := Lib.hid (HS5.out.ext ⟨x1, rfl⟩)
                  clear HS5 HF5
                  generalize w5.over x1 = w6 at *
                  have hll := facT_len es (X, (j : Int)) k
                  have HNX : Hid (∀ (o : Obj) (v' : Value) (w4 : World), (w6.alloc o).grownBy w4 u9.ownBlock → w4.ownsRow W0.heap.size 45 2 v' ((facT es (X, (j : Int)) k).length + 1) ((flatP (facT es (X, (j : Int)) k)).map (Value.int .i64) ++ [.int .i64 u, .int .i64 v]) → (v'.ownBlock = u9.ownBlock ∨ v'.ownBlock = some (w6.alloc o).heap.size) → SmKp W0 K (facT es (X, (j : Int)) (k + 1)) v' w4) := fun o v' w4 hg ho hat => by rw [HT.out]; exact HS6.out.push hg ho hat
                  generalize facT es (X, (j : Int)) k = LL at *
                  have hown : w6.ownsRow W0.heap.size 45 2 u9 LL.length ((flatP LL).map (Value.int .i64)) := HS6.out.st.own
                  have HLE : Hid (∀ o : Obj, W0.heap.size ≤ (w6.alloc o).heap.size) := fun o => (HS6.out.st.x.alloc o).size
                  have HB1 : Hid (LL.length + 1 ≤ maxLen) := by show _ ≤ _; unfold maxLen; omega
                  have HB2 : Hid ((LL.length + 1) * 16 ≤ 140737488355328) := by show _ ≤ _; omega
                  clear HS6 HT
                  go_wp2_with (at_builtin; refine wpList_append_own_at _ rfl _ _ 42 rfl W0.heap.size 45 iw (.agg #[.int .i64 0, .int .i64 0]) 2 16 Try.underlying42 hiw hz0 hz1 hz2 rfl (by decide) _ _ _ rfl (hown.alloc _) ⟨w6.heap.size, 0, none⟩ 1 1 [.int .i64 u, .int .i64 v] rfl rfl (cell_two_new _ _ _ _) (by simp [Value.oneCell']) HB1.out HB2.out (HLE.out _) (fun v' w4 hown' hgrow _ hat => ?_); have HS9 := Lib.hid (HNX.out _ _ _ hgrow hown' hat); clear hgrow hown' hown hat f0 f1 lf)
                  go_roundw
                  case rel => exact ⟨k + 1, by omega, by go_num, HS9⟩
                  case measure => simp [intOf]; omega
                · have HT : Hid (facT es (X, (j : Int)) (k + 1) = facT es (X, (j : Int)) k) := HNO.out hin
                  rw [decide_eq_false hin] at HCO
                  clear HYES HNO hin
                  refine wp_region_over_lit (by kernel_rfl) (by kernel_rfl) ?_; (repeat (go_big_quiet_step ((first | (go_at_call 59; exact Calls.over_of (HPL.out _)) | (go_at_call 58; exact Calls.over_of (HCO.out _)))))); refine wpQuiet_nil ?_; rintro _ ⟨x1, rfl⟩
                  clear f0 f1 e0 e1 d0 lf HPL HCO
                  have HS9 : Hid (SmKp W0 K (facT es (X, (j : Int)) (k + 1)) u9 (w5.over x1)) := by rw [HT.out]; exact HS5.out.ext ⟨x1, rfl⟩
                  clear HS5 HF5
                  go_wp2
                  go_roundw
                  case rel => exact ⟨k + 1, by omega, by go_num, HS9⟩
                  case measure => simp [intOf]; omega
              · have hkk : k = es.length := by omega
                subst hkk
                rw [facT_all] at HS
                obtain ⟨g9, cap9, rfl⟩ := HS.out.st.form
                have HR9 : Hid (∀ w', wq.Ext w' → RowP w' (some ⟨g9, 0, none⟩) (facB es (X, (j : Int)))) := fun w' hx => RowP.ext (GrowP.own HS.out.st.own).row hx
                have HR8 : Hid (∀ w', wq.Ext w' → RowP w' (some ⟨p8, 0, none⟩) [(0, 0), (X, (j : Int))]) := fun w' hx => RowP.ext (row_two (HS.out.kp _ _ HK8.out).1) hx
                have hbl := facB_len es (X, (j : Int))
                have HSU : Hid (∀ w', wq.Ext w' → Calls Try.prog 54 #[.slice (some ⟨p8, 0, none⟩) 2 2, .slice (some ⟨g9, 0, none⟩) (facB es (X, (j : Int))).length cap9] w' (ElOwn w' (facS es (X, (j : Int))))) := fun w' hx =>
                  sums_any (some ⟨p8, 0, none⟩) 2 [(0, 0), (X, (j : Int))] (some ⟨g9, 0, none⟩) cap9 (facB es (X, (j : Int))) w' (by simp) (by omega) (fun q hq => by
                    rcases List.mem_cons.1 hq with rfl | hq
                    · rfl
                    · rw [List.mem_singleton] at hq
                      rw [hq]
                      exact offOk_iff.2 (by simp only; omega)) (fun q hq => elemOk_off HOK.out (facB_sub hq)) (HR8.out w' hx) (HR9.out w' hx)
                have HSL : Hid ((facS es (X, (j : Int))).length ≤ 1048576) := Nat.le_trans (setL_len _) (Nat.le_trans (facS_few (X, (j : Int)) hel) (by omega))
                have HG9 : Hid (GrowP W0.heap.size 45 wq (.slice (some ⟨g9, 0, none⟩) (facB es (X, (j : Int))).length cap9) (facB es (X, (j : Int)))) := HS.out.st.own
                have HB8 : Hid (wq.heap[p8]? = some (.cells #[.int .i64 0, .int .i64 0, .int .i64 X, .int .i64 (j : Int)] 45 (0, 0))) := (HS.out.kp _ _ HK8.out).1
                have HXQ : Hid (W0.Ext wq) := HS.out.st.x
                have HYES : Hid (facS es (X, (j : Int)) = es → facG es (j * 9 + i) = true) := fun h => by
                  unfold facG
                  rw [HCC.out, h, decide_eq_true HTP.out, decide_eq_true rfl, Bool.and_true]
                have HNO : Hid (¬ facS es (X, (j : Int)) = es → facG es (j * 9 + i) = false) := fun h => by
                  unfold facG
                  rw [HCC.out, decide_eq_false h, Bool.and_false]
                obtain ⟨L, hL⟩ : ∃ L, L = facB es (X, (j : Int)) := ⟨_, rfl⟩
                have HLL := Lib.hid hL
                rw [← hL] at HR9 HSU HG9 hbl ⊢
                obtain ⟨S, hS⟩ : ∃ S, S = facS es (X, (j : Int)) := ⟨_, rfl⟩
                rw [← hS] at HSU HSL HYES HNO
                obtain ⟨nL, hnL⟩ : ∃ nL, nL = L.length := ⟨_, rfl⟩
                have HNL := Lib.hid hnL
                rw [← hnL] at HSU HG9 hbl ⊢
                have hc0 := HD.out wq HXQ.out
                clear HS hL hS hnL HTP
                have hE0 : wq.Ext wq := .refl _
                have hfe : ∀ (a : Option Addr) (n c : Nat) (w : World), (Instr.field 48 (.agg #[.slice a n c]) 0).run Try.prog w = .ok (.slice a n c) w := field_elem
                go_upto_region 18 with fail
                go_cut [60] (fun z wc => z = .bool (decide (S = es)) ∧ Hid (wq.Ext wc))
                case first =>
                  go_region_held3 (fun w' => w'.cell? ⟨w.heap.size, 0, none⟩ = some (.slice a es.length c))
                    (first | (refine World.Ext.cell ?_ hc0 <;> ((repeat (first | exact World.Ext.refl _ | exact ⟨_, rfl⟩ | assumption | refine World.Ext.over ?_ _ | refine World.Ext.drewN ?_ _ | refine World.Ext.drew ?_ | refine World.Ext.alloc ?_ _ | refine World.Ext.setCell ?_ ?_ _ | (simp; done))); done)) | (refine World.Ext.cell ?_ hc6 <;> ((repeat (first | exact World.Ext.refl _ | exact ⟨_, rfl⟩ | assumption | refine World.Ext.over ?_ _ | refine World.Ext.drewN ?_ _ | refine World.Ext.drew ?_ | refine World.Ext.alloc ?_ _ | refine World.Ext.setCell ?_ ?_ _ | (simp; done))); done)) | (refine World.Ext.cell ?_ hc7 <;> ((repeat (first | exact World.Ext.refl _ | exact ⟨_, rfl⟩ | assumption | refine World.Ext.over ?_ _ | refine World.Ext.drewN ?_ _ | refine World.Ext.drew ?_ | refine World.Ext.alloc ?_ _ | refine World.Ext.setCell ?_ ?_ _ | (simp; done))); done)))
                    (first
                      | (go_at_call 54; go_loud (refine (HSU.out _ (by repeat (first | exact World.Ext.refl _ | exact ⟨_, rfl⟩ | assumption | refine World.Ext.over ?_ _ | refine World.Ext.drewN ?_ _ | refine World.Ext.drew ?_ | refine World.Ext.alloc ?_ _ | refine World.Ext.setCell ?_ (by simp) _))).mono ?_; rintro e w6 ⟨g6, cap6, rfl, hx6, ho6⟩; have E6 : wq.Ext w6 := World.Ext.trans (by repeat (first | exact World.Ext.refl _ | exact ⟨_, rfl⟩ | assumption | refine World.Ext.over ?_ _ | refine World.Ext.drewN ?_ _ | refine World.Ext.drew ?_ | refine World.Ext.alloc ?_ _ | refine World.Ext.setCell ?_ (by simp) _)) hx6; have hc6 := E6.cell hc0; have HR6 : Hid (RowP w6 (some ⟨g6, 0, none⟩) S) := (GrowP.own ho6).row; clear hx6 ho6))
                      | (go_at_call 60; go_loud (refine (equalS_any (some ⟨g6, 0, none⟩) cap6 S a c es _ HSL.out (RowP.ext HR6.out (by repeat (first | exact World.Ext.refl _ | exact ⟨_, rfl⟩ | assumption | refine World.Ext.over ?_ _ | refine World.Ext.drewN ?_ _ | refine World.Ext.drew ?_ | refine World.Ext.alloc ?_ _ | refine World.Ext.setCell ?_ (by simp) _))) (HMX.out _ (HXQ.out.trans (E6.trans (by repeat (first | exact World.Ext.refl _ | exact ⟨_, rfl⟩ | assumption | refine World.Ext.over ?_ _ | refine World.Ext.drewN ?_ _ | refine World.Ext.drew ?_ | refine World.Ext.alloc ?_ _ | refine World.Ext.setCell ?_ (by simp) _)))))).mono ?_; rintro e w7 ⟨rfl, hx7⟩; have E7 : wq.Ext w7 := (E6.trans (by repeat (first | exact World.Ext.refl _ | exact ⟨_, rfl⟩ | assumption | refine World.Ext.over ?_ _ | refine World.Ext.drewN ?_ _ | refine World.Ext.drew ?_ | refine World.Ext.alloc ?_ _ | refine World.Ext.setCell ?_ (by simp) _))).trans hx7; have hc7 := E7.cell hc0; clear hx7)))
                  all_goals
                    go_wp2_with fail
                    go_meet
                    exact ⟨rfl, by show World.Ext _ _; repeat (first | exact World.Ext.refl _ | exact ⟨_, rfl⟩ | assumption | refine World.Ext.over ?_ _ | refine World.Ext.drewN ?_ _ | refine World.Ext.drew ?_ | refine World.Ext.alloc ?_ _ | refine World.Ext.setCell ?_ (by simp) _)⟩
                case rest =>
                  obtain ⟨rfl, HXC⟩ := hcut
                  clear hc0 hE0 HSU HR9 HR8 HSL hfe
                  by_cases hE : S = es
                  · have HGY := Lib.hid (HYES.out hE)
                    rw [decide_eq_true hE]
                    clear HYES HNO hE
                    have hg9 := (World.ownsRow.lt HG9.out g9 rfl).1
                    have hp8 := HP8.out
                    obtain ⟨r1, r2, r3, r4, r5, r6, HR, l1, l2⟩ := One.both (.slice (some ⟨p8, 0, none⟩) 2 2) (.slice (some ⟨g9, 0, none⟩) nL cap9) (HX0.out.trans (HXQ.out.trans HXC.out)) (show w.heap.size ≤ w.heap.size + 1 by omega) (show w.heap.size ≤ w.heap.size + 1 + 1 by omega) ((H23.out.1.ext HXQ.out).ext HXC.out) ((H23.out.2.ext HXQ.out).ext HXC.out) (by omega)
                    have hb8 : (wc.setCell ⟨w.heap.size + 1, 0, none⟩ (.slice (some ⟨p8, 0, none⟩) 2 2) |>.setCell ⟨w.heap.size + 1 + 1, 0, none⟩ (.slice (some ⟨g9, 0, none⟩) nL cap9)).heap[p8]? = some (.cells #[.int .i64 0, .int .i64 0, .int .i64 X, .int .i64 (j : Int)] 45 (0, 0)) := by
                      rw [Below.heap_setCell _ _ _ _ (by simp only; omega), Below.heap_setCell _ _ _ _ (by simp only; omega), HXC.out.block (Array.getElem?_eq_some_iff.1 HB8.out).1]
                      exact HB8.out
                    have hgr := ((HG9.out.ext HXC.out).setCell (a := ⟨w.heap.size + 1, 0, none⟩) (by simp only [Value.ownBlock]; intro e; cases e; omega) (.slice (some ⟨p8, 0, none⟩) 2 2)).setCell (a := ⟨w.heap.size + 1 + 1, 0, none⟩) (by simp only [Value.ownBlock]; intro e; cases e; omega) (.slice (some ⟨g9, 0, none⟩) nL cap9)
                    have HFIN : Hid (FacRet w es (.returned (.tuple #[.agg #[.slice (some ⟨p8, 0, none⟩) 2 2], .agg #[.slice (some ⟨g9, 0, none⟩) nL cap9], .bool true])) ((wc.setCell ⟨w.heap.size + 1, 0, none⟩ (.slice (some ⟨p8, 0, none⟩) 2 2)).setCell ⟨w.heap.size + 1 + 1, 0, none⟩ (.slice (some ⟨g9, 0, none⟩) nL cap9))) := by
                      refine .inl ⟨j * 9 + i, by omega, HGY.out, some ⟨p8, 0, none⟩, 2, some ⟨g9, 0, none⟩, cap9, ?_, HR.out, ?_, ?_⟩
                      · rw [HCC.out, ← HLL.out, ← HNL.out]
                      · rw [HCC.out]; exact row_two hb8
                      · rw [HCC.out, ← HLL.out]
                        exact (GrowP.own hgr).row
                    clear hb8 hgr HR HG9 HB8 hg9 hp8
                    go_wp2
                    exact bodyPost_ret (v := .tuple #[.agg #[.slice (some ⟨p8, 0, none⟩) 2 2], .agg #[.slice (some ⟨g9, 0, none⟩) nL cap9], .bool true]) (by simp [results, Try.results22, go_sem, r5, r6]) rfl HFIN.out
                  · have HN1 : Hid (facN es (j * 9 + (i + 1))) := facN_next HN.out (HNO.out hE)
                    rw [decide_eq_false hE]
                    have HX9 : Hid (W0.Ext wc) := HXQ.out.trans HXC.out
                    clear HYES HNO hE HN HG9 HB8 HXC HXQ
                    go_wp2
                    go_roundw
                    case rel => exact ⟨i + 1, X + 1, by have := HXX.out; omega, by omega, by go_num, HX9, HN1⟩
                    case measure => simp [intOf]; omega
        · have hnx : ¬ X ≤ 4 := by omega
          have HN1 : Hid (facN es ((j + 1) * 9)) := by
            have h := HN.out
            rw [show j * 9 + i = (j + 1) * 9 by omega] at h
            exact h
          clear HN
          go_wp2
          go_roundw
          case rel => exact ⟨j + 1, by omega, by go_num, HX, HN1⟩
          case measure => simp [intOf]; omega
    · have hj5 : j = 5 := by omega
      have hny : ¬ (j : Int) ≤ 4 := by omega
      have HN1 : Hid (facN es 45) := by have h := HN.out; rw [hj5] at h; exact h
      obtain ⟨r1, r2, r3, r4, r5, r6, HR, l1, l2⟩ := One.both (.slice none 0 0) (.slice none 0 0) (HX0.out.trans HX.out) (show w.heap.size ≤ w.heap.size + 1 by omega) (show w.heap.size ≤ w.heap.size + 1 + 1 by omega) (H23.out.1.ext HX.out) (H23.out.2.ext HX.out) (by omega)
      have HFIN : Hid (FacRet w es (.returned (.tuple #[.agg #[.slice none 0 0], .agg #[.slice none 0 0], .bool false])) ((wo.setCell ⟨w.heap.size + 1, 0, none⟩ (.slice none 0 0)).setCell ⟨w.heap.size + 1 + 1, 0, none⟩ (.slice none 0 0))) := .inr ⟨HN1.out, rfl, HR.out⟩
      clear HN HN1 HX HR
      go_wp2
      exact bodyPost_ret (v := .tuple #[.agg #[.slice none 0 0], .agg #[.slice none 0 0], .bool false]) (by simp [results, Try.results22, go_sem, r5, r6]) rfl HFIN.out
end Go.Proofs.Ytkpgelhmeokemaa
