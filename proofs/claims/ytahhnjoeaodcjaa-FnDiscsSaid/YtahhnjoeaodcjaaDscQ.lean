/- DiscsOf: the reference's. -/
import Derived.Test.YtahhnjoeaodcjaaDscS
namespace Go.Proofs.Ytahhnjoeaodcjaa
open Go Go.RowKit
theorem any_range_succ (f : Nat → Bool) (n : Nat) : (List.range (n + 1)).any f = ((List.range n).any f || f n) := by
  rw [List.range_succ, List.any_append]; simp
theorem any_range_mono {f : Nat → Bool} {j n : Nat} (h : j ≤ n) (ha : (List.range j).any f = true) : (List.range n).any f = true := by
  obtain ⟨i, h1, h2⟩ := List.any_eq_true.1 ha
  exact List.any_eq_true.2 ⟨i, List.mem_range.2 (Nat.lt_of_lt_of_le (List.mem_range.1 h1) h), h2⟩
theorem pickD_snoc (D : List (Int × Int × Int)) (js : List Nat) (j : Nat) : pickD D (js ++ [j]) = pickD D js ++ [D.getD j (0, 0, 0)] := by simp [pickD]
theorem dscK_len (kind : Int) (W H : Nat) (D : List (Int × Int × Int)) (k : Nat) : (pickD D (dscK kind W H D k)).length ≤ k := by
  unfold pickD dscK keptL
  rw [List.length_map]
  exact Nat.le_trans (List.length_filter_le _ _) (by simp)
theorem inD_at {W H : Nat} {D : List (Int × Int × Int)} (h : ∀ d, d ∈ D → InD W H d) {i : Nat} (hi : i < D.length) : InD W H (D.getD i (0, 0, 0)) := by
  refine h _ ?_
  rw [List.getD_eq_getElem?_getD, List.getElem?_eq_getElem hi]
  exact List.getElem_mem hi
theorem of_true_not {b : Bool} (h : true = !b) : b = false := by cases b; rfl; cases h
theorem of_false_not {b : Bool} (h : false = !b) : b = true := by cases b; cases h; rfl
set_option maxRecDepth 5000 in
set_option maxHeartbeats 6400000 in
theorem l06Discs_any (p : Nat) (kind : Int) (a : Option Addr) (c : Nat) (ss : List ByteArray) (w : World) (he : Even ss) (hW : picW ss ≤ 38) (hH : ss.length ≤ 38)
    (hp : w.cell? ⟨p, 0, none⟩ = some (.slice a ss.length c)) (hm : RowS w a ss) :
    Calls Try.prog 156 #[.pointer (some ⟨p, 0, none⟩), .int .i64 kind] w (DiscsRet w (dscL kind (picW ss) ss.length (picL ss))) := by
  obtain ⟨i0, hi, hz0, hz1, hz2⟩ := info_parts Try.infoDisc
  have HWS : Hid (∀ w', w.Ext w' → Calls Try.prog 99 #[.pointer (some ⟨p, 0, none⟩)] w' fun e w'' => e = .returned (.int .i64 (picW ss)) ∧ w'.Ext w'') := fun w' hx => l01Width_any p a c ss w' he.1 (by omega) (by omega) (hx.cell hp) (hm.ext hx)
  have HHS : Hid (∀ w', w.Ext w' → Calls Try.prog 100 #[.pointer (some ⟨p, 0, none⟩)] w' fun e w'' => e = .returned (.int .i64 ss.length) ∧ w'.Ext w'') := fun w' hx => l01Height_any p a c ss.length w' (by omega) (hx.cell hp)
  have HD := Lib.hid (l06Depths_any p kind a c ss w he hW hH hp hm)
  have HHO : Hid (∀ (w' : World) (D : List (Int × Int × Int)) (i j : Nat), InD (picW ss) ss.length (D.getD i (0, 0, 0)) → InD (picW ss) ss.length (D.getD j (0, 0, 0)) → ∀ t, hasT kind (D.getD j (0, 0, 0)) (D.getD i (0, 0, 0)).1 (D.getD i (0, 0, 0)).2.1 = t →
      Calls Try.prog 160 #[.int .i64 kind, .agg #[.int .i64 (D.getD j (0, 0, 0)).1, .int .i64 (D.getD j (0, 0, 0)).2.1, .int .i64 (D.getD j (0, 0, 0)).2.2], .int .i64 (D.getD i (0, 0, 0)).1, .int .i64 (D.getD i (0, 0, 0)).2.1] w' fun e w'' => e = .returned (.bool t) ∧ w'.Ext w'') := fun w' D i j h1 h2 t ht => by
    obtain ⟨x, y, k1, k2, k3, k4, -⟩ := h1
    obtain ⟨x', y', l1, l2, l3, l4, -⟩ := h2
    exact l06Holds_any kind _ _ _ _ _ w' (by omega) (by omega) (by omega) (by omega) t ht
  have HIN : Hid (∀ w', w.Ext w' → ∀ (D : List (Int × Int × Int)) (i j : Nat), InD (picW ss) ss.length (D.getD i (0, 0, 0)) → InD (picW ss) ss.length (D.getD j (0, 0, 0)) → ∀ t, subH (hasH kind (picW ss) D) (ss.length * picW ss) i j = t →
      Calls Try.prog 215 #[.pointer (some ⟨p, 0, none⟩), .int .i64 kind, .agg #[.int .i64 (D.getD i (0, 0, 0)).1, .int .i64 (D.getD i (0, 0, 0)).2.1, .int .i64 (D.getD i (0, 0, 0)).2.2], .agg #[.int .i64 (D.getD j (0, 0, 0)).1, .int .i64 (D.getD j (0, 0, 0)).2.1, .int .i64 (D.getD j (0, 0, 0)).2.2]] w' fun e w'' => e = .returned (.bool t) ∧ w'.Ext w'') := fun w' hx D i j h1 h2 t ht => by
    obtain ⟨x, y, k1, k2, k3, k4, -⟩ := h1
    obtain ⟨x', y', l1, l2, l3, l4, -⟩ := h2
    exact l06In_any p a c ss kind _ _ _ _ _ _ w' he hW hH (hx.cell hp) (hm.ext hx) (by omega) (by omega) (by omega) (by omega) t (by rw [← ht]; exact subH_at)
  have HDP : Hid (∀ x y : Nat, x < picW ss → y < ss.length → decide (0 < depI kind (picW ss) ss.length (picL ss) x y) = (picL ss).getD (y * picW ss + x) false) := fun x y h1 h2 => dep_pos h1 h2
  have HT0 : Hid (dscTo kind (picW ss) ss.length (picL ss) 0 = []) := rfl
  have HNO : Hid (∀ k, (picL ss).getD k false = false → dscTo kind (picW ss) ss.length (picL ss) (k + 1) = dscTo kind (picW ss) ss.length (picL ss) k) := fun k h => dscTo_no h
  have HYES : Hid (∀ x y : Nat, x < picW ss → (picL ss).getD (y * picW ss + x) false = true → dscTo kind (picW ss) ss.length (picL ss) (y * picW ss + x + 1) = dscTo kind (picW ss) ss.length (picL ss) (y * picW ss + x) ++ [((x : Int), (y : Int), depI kind (picW ss) ss.length (picL ss) x y)]) := fun x y h1 h2 => dscTo_yes h1 h2
  have HTL : Hid (∀ k, (dscTo kind (picW ss) ss.length (picL ss) k).length ≤ k) := fun k => dscTo_len _ _ _ _ k
  have HTI : Hid (∀ d, d ∈ dscTo kind (picW ss) ss.length (picL ss) (ss.length * picW ss) → InD (picW ss) ss.length d) := fun d h => dscTo_in hW hH h
  have HKK : Hid (∀ x y, x < picW ss → y < ss.length → y * picW ss + x < 1600) := fun x y h1 h2 => by
    have := Nat.mul_le_mul (show y ≤ 37 by omega) hW
    omega
  have HSM : Hid (ss.length * picW ss ≤ 1600) := Nat.le_trans (Nat.mul_le_mul hH hW) (by omega)
  unfold dscL
  clear hm he hp
  generalize dscTo kind (picW ss) ss.length (picL ss) = T at *
  generalize depI kind (picW ss) ss.length (picL ss) = g at *
  generalize picL ss = L at *
  generalize picW ss = W at *
  generalize ss.length = H at *
  go_enter Try.func156, Try.ntmps156
  go_wp2_with fail
  refine HD.out.mono ?_
  rintro e w1 ⟨a1, c1, A1, C1, rfl, hx1, hm1⟩
  rw [grd_len]
  have HMT : Hid (∀ wr, w1.Ext wr → ∀ x y, x < W → y < H → ∃ b o b' o', a1 = some ⟨b, o, none⟩ ∧ wr.cell? ⟨b, o + y, none⟩ = some (.slice (some ⟨b', o', none⟩) W (C1 y)) ∧ wr.cell? ⟨b', o' + x, none⟩ = some (.int .i64 (g x y))) := fun wr hx x y h1 h2 => by
    obtain ⟨⟨b, o, e1, q1⟩, h3⟩ := (hm1.ext hx).at (y := y) (by rw [grd_len]; exact h2)
    obtain ⟨b', o', e2, q2⟩ := h3 x (by rw [grd_row h2, grdRow_len]; exact h1)
    rw [grd_row h2, grdRow_len] at q1
    rw [grd_row h2, grdRow_at h1] at q2
    exact ⟨b, o, b', o', e1, by rw [← e2]; exact q1, q2⟩
  have HX1 := Lib.hid hx1
  have HST0 : Hid (DlSt w1 (.slice (some ⟨w1.heap.size, 0, none⟩) 0 0) [] (w1.alloc (.cells #[] 98))) := ⟨by repeat (first | exact World.Ext.refl _ | exact ⟨_, rfl⟩ | assumption | refine World.Ext.over ?_ _ | refine World.Ext.drewN ?_ _ | refine World.Ext.drew ?_ | refine World.Ext.alloc ?_ _ | refine World.Ext.setCell ?_ (by simp) _), GrowD.empty _ (Nat.le_refl _)⟩
  clear hx1 hm1 HD
  go_wp2
  go_loopw [6, 7, 8] (fun v i _ wr => ∃ y : Nat, y ≤ H ∧ i = .int .i64 y ∧ Hid (DlSt w1 v (T (y * W)) wr)) (fun _ i _ _ => H - (intOf i).toNat)
  case atStart => exact ⟨0, Nat.zero_le _, rfl, by rw [Nat.zero_mul, HT0.out]; exact HST0⟩
  case round =>
    obtain ⟨y, hy, rfl, HS⟩ := hrel
    clear HST0
    obtain ⟨wo, rfl⟩ : ∃ wo : World, wo = wr := ⟨_, rfl⟩
    by_cases hlty : y < H
    · have hlty' : (y : Int) < (H : Int) := by omega
      go_wp2_with fail
      refine (HHS.out _ (HX1.out.trans HS.out.1)).mono ?_
      rintro e w2 ⟨rfl, hx2⟩
      have HS2 := Lib.hid (HS.out.ext hx2)
      clear hx2 HS
      go_wp2
      go_loopw [6, 8] (fun v i wr => ∃ x : Nat, x ≤ W ∧ i = .int .i64 x ∧ Hid (DlSt w1 v (T (y * W + x)) wr)) (fun _ i _ => W - (intOf i).toNat)
      case atStart => exact ⟨0, Nat.zero_le _, rfl, HS2⟩
      case round =>
        obtain ⟨x, hx, rfl, HS⟩ := hrel
        clear HS2
        obtain ⟨wp, rfl⟩ : ∃ wp : World, wp = wr := ⟨_, rfl⟩
        by_cases hltx : x < W
        · have hltx' : (x : Int) < (W : Int) := by omega
          have hx0' : (0 : Int) ≤ (x : Int) := by omega
          have hy0' : (0 : Int) ≤ (y : Int) := by omega
          go_wp2_with fail
          refine (HWS.out _ (HX1.out.trans HS.out.1)).mono ?_
          rintro e w2 ⟨rfl, hx2⟩
          have HS2 := Lib.hid (HS.out.ext hx2)
          clear hx2 HS
          obtain ⟨b, o, b', o', rfl, q1, q2⟩ := HMT.out w2 HS2.out.1 x y hltx hlty
          have hd := HDP.out x y hltx hlty
          cases hb : L.getD (y * W + x) false
          · rw [hb] at hd
            have HS3 : Hid (DlSt w1 u6 (T (y * W + (x + 1))) w2) := by
              show DlSt _ _ _ _
              rw [← Nat.add_assoc, HNO.out _ hb]
              exact HS2.out
            clear hb HS2
            generalize g x y = d at *
            go_wp2
            go_roundw
            case rel => exact ⟨x + 1, by omega, by go_num, HS3⟩
            case measure => simp [intOf]; omega
          · rw [hb] at hd
            have HQ := Lib.hid (HYES.out x y hltx hb)
            have HB1 : Hid ((T (y * W + x)).length + 1 ≤ maxLen) := by show _ ≤ _; have h1 := HTL.out (y * W + x); have h2 := HKK.out x y hltx hlty; unfold maxLen; omega
            have HB2 : Hid (((T (y * W + x)).length + 1) * 24 ≤ 140737488355328) := by show _ ≤ _; have h1 := HTL.out (y * W + x); have h2 := HKK.out x y hltx hlty; omega
            have HNEXT : Hid (∀ (o : Obj) (v' : Value) (w4 : World), (w2.alloc o).grownBy w4 u6.ownBlock → w4.ownsRow w1.heap.size 98 3 v' ((T (y * W + x)).length + 1) ((flatD (T (y * W + x))).map (Value.int .i64) ++ [.int .i64 x, .int .i64 y, .int .i64 (g x y)]) → Hid (DlSt w1 v' (T (y * W + (x + 1))) w4)) := fun o v' w4 hgrow hown' => DlSt.next HS2.out (by rw [← Nat.add_assoc]; exact HQ.out) hgrow hown'
            have hown := HS2.out.2
            unfold GrowD at hown
            have HLE : ∀ o' : Obj, w1.heap.size ≤ (w2.alloc o').heap.size := fun o' => (HS2.out.1.alloc o').size
            clear HS2 HQ hb
            generalize T (y * W + x) = ps at *
            generalize g x y = d at *
            go_wp2_with (at_builtin; refine wpList_append_own _ rfl _ _ 88 rfl w1.heap.size 98 i0 (.agg #[.int .i64 0, .int .i64 0, .int .i64 0]) 3 24 Try.underlying88 hi hz0 hz1 hz2 rfl (by decide) _ _ _ rfl (hown.alloc _) ⟨w2.heap.size, 0, none⟩ 1 1 [.int .i64 x, .int .i64 y, .int .i64 d] rfl rfl (cell_three_at (by simp)) (by simp [Value.oneCell']) HB1.out HB2.out (HLE _) (fun v' w4 hown' hgrow _ => ?_); have HS9 := HNEXT.out _ _ _ hgrow hown'; clear hgrow hown' hown)
            go_roundw
            case rel => exact ⟨x + 1, by omega, by go_num, HS9⟩
            case measure => simp [intOf]; omega
        · have : x = W := by omega
          subst this
          go_wp2_with fail
          refine (HWS.out _ (HX1.out.trans HS.out.1)).mono ?_
          rintro e w2 ⟨rfl, hx2⟩
          have HS2 := Lib.hid (HS.out.ext hx2)
          clear hx2 HS
          go_wp2
          go_roundw
          case rel => exact ⟨y + 1, by omega, by go_num, by rw [Nat.succ_mul]; exact HS2⟩
          case measure => simp [intOf]; omega
    · have : y = H := by omega
      subst this
      go_wp2_with fail
      refine (HHS.out _ (HX1.out.trans HS.out.1)).mono ?_
      rintro e w2 ⟨rfl, hx2⟩
      have HS2 := Lib.hid (HS.out.ext hx2)
      have hlen := HTL.out (y * W)
      have hsm := HSM.out
      have HDI : Hid (∀ i, i < (T (y * W)).length → InD W y ((T (y * W)).getD i (0, 0, 0))) := fun i hi => inD_at HTI.out hi
      have hdn : (T (y * W)).length ≤ 1600 := by omega
      clear hx2 HS hlen hsm HTI HNO HYES HTL HT0 HDP
      generalize T (y * W) = DD at *
      obtain ⟨aD, cD, rfl, _⟩ := HS2.out.2.form
      have HDR : Hid (∀ wr, w2.Ext wr → RowD wr aD DD) := fun wr hx => RowD.ext HS2.out.2.own.row hx
      have HX2 := Lib.hid (HX1.out.trans HS2.out.1)
      have HKS : Hid (∀ k, dscK kind W y DD (k + 1) = if beatB (hasH kind W DD) DD.length (y * W) k then dscK kind W y DD k else dscK kind W y DD k ++ [k]) := fun k => keptL_succ k
      have HKL := Lib.hid (dscK_len kind W y DD)
      have HST1 : Hid (DlSt w2 (.slice (some ⟨w2.heap.size, 0, none⟩) 0 0) (pickD DD (dscK kind W y DD 0)) (w2.alloc (.cells #[] 98))) := ⟨by repeat (first | exact World.Ext.refl _ | exact ⟨_, rfl⟩ | assumption | refine World.Ext.over ?_ _ | refine World.Ext.drewN ?_ _ | refine World.Ext.drew ?_ | refine World.Ext.alloc ?_ _ | refine World.Ext.setCell ?_ (by simp) _), GrowD.empty _ (Nat.le_refl _)⟩
      clear HS2
      generalize dscK kind W y DD = K at *
      go_wp2
      go_loopw [9, 10, 11, 12] (fun v i _ _ wr => ∃ k : Nat, k ≤ DD.length ∧ i = .int .i64 k ∧ Hid (DlSt w2 v (pickD DD (K k)) wr)) (fun _ i _ _ _ => DD.length - (intOf i).toNat)
      case atStart => exact ⟨0, Nat.zero_le _, rfl, HST1⟩
      case round =>
        obtain ⟨k, hk, rfl, HS⟩ := hrel
        clear HST1
        obtain ⟨wo, rfl⟩ : ∃ wo : World, wo = wr := ⟨_, rfl⟩
        by_cases hltk : k < DD.length
        · have hltk' : (k : Int) < (DD.length : Int) := by omega
          have hk0' : (0 : Int) ≤ (k : Int) := by omega
          have HIK := Lib.hid (HDI.out k hltk)
          obtain ⟨AN, hAN⟩ : ∃ AN : Nat → Bool, AN = fun j => (List.range j).any (beat1 (hasH kind W DD) (y * W) k) := ⟨_, rfl⟩
          have HAN0 : Hid (AN 0 = false) := by rw [hAN]; rfl
          have HANS : Hid (∀ j, AN (j + 1) = (AN j || beat1 (hasH kind W DD) (y * W) k j)) := fun j => by rw [hAN]; exact any_range_succ _ j
          have HANB : Hid (∀ j, j ≤ DD.length → AN j = true → beatB (hasH kind W DD) DD.length (y * W) k = true) := fun j hj h => by rw [hAN] at h; exact any_range_mono hj h
          have HANE : Hid (beatB (hasH kind W DD) DD.length (y * W) k = AN DD.length) := by rw [hAN]; rfl
          clear hAN
          go_wp2
          go_loopw [11, 12] (fun q i wr => ∃ (j : Nat) (kp : Bool), j ≤ DD.length ∧ i = .int .i64 j ∧ q = .bool kp ∧ Hid (kp = !AN j) ∧ Hid (DlSt w2 u9 (pickD DD (K k)) wr)) (fun _ i _ => DD.length - (intOf i).toNat)
          case atStart => exact ⟨0, true, Nat.zero_le _, rfl, rfl, by show _ = _; rw [HAN0.out]; rfl, HS⟩
          case round =>
            obtain ⟨j, kp, hj, rfl, rfl, HKP, HS⟩ := hrel
            obtain ⟨wp, rfl⟩ : ∃ wp : World, wp = wr := ⟨_, rfl⟩
            have hj0' : (0 : Int) ≤ (j : Int) := by omega
            by_cases hgo : j < DD.length ∧ kp = true
            · obtain ⟨hltj, rfl⟩ := hgo
              have hltj' : (j : Int) < (DD.length : Int) := by omega
              have HIJ := Lib.hid (HDI.out j hltj)
              obtain ⟨b1, o1, rfl, r1, r2, r3⟩ := (HDR.out wp HS.out.1).at hltk
              obtain ⟨b2, o2, e2, s1, s2, s3⟩ := (HDR.out wp HS.out.1).at hltj
              cases e2
              have HAJ : Hid (AN j = false) := of_true_not HKP.out
              by_cases ekj : j = k
              · have d0 : ((j : Int) == (k : Int)) = true := by rw [beq_iff_eq]; omega
                have HKP2 : Hid (true = !AN (j + 1)) := by
                  show _ = _
                  rw [HANS.out, HAJ.out]
                  unfold beat1
                  rw [decide_eq_false (fun h => h ekj)]
                  rfl
                clear HKP HAJ ekj
                go_wp2_with fail
                refine wp_region_over_lit (by kernel_rfl) (by kernel_rfl) ?_; (repeat (go_big_quiet_step (fail))); refine wpQuiet_nil ?_; rintro _ ⟨x1, rfl⟩
                have HS3 := Lib.hid (HS.out.ext ⟨x1, rfl⟩)
                clear HS r1 r2 r3 s1 s2 s3
                go_wp2
                go_roundw
                case rel => exact ⟨j + 1, true, by omega, by go_num, rfl, HKP2, HS3⟩
                case measure => simp [intOf]; omega
              · have d0 : ((j : Int) == (k : Int)) = false := by rw [beq_eq_false_iff_ne]; omega
                cases h1 : hasT kind (DD.getD j (0, 0, 0)) (DD.getD k (0, 0, 0)).1 (DD.getD k (0, 0, 0)).2.1
                · have HC1 := Lib.hid (fun w' => HHO.out w' DD k j HIK.out HIJ.out _ h1)
                  have HKP2 : Hid (true = !AN (j + 1)) := by
                    show _ = _
                    rw [HANS.out, HAJ.out]
                    unfold beat1
                    rw [subH_centre HIK.out h1]
                    simp
                  clear HKP HAJ ekj h1
                  generalize DD.getD j (0, 0, 0) = dj at *
                  generalize DD.getD k (0, 0, 0) = dk at *
                  obtain ⟨j1, j2, j3⟩ := dj
                  obtain ⟨k1, k2, k3⟩ := dk
                  dsimp only at r1 r2 r3 s1 s2 s3 HC1
                  go_wp2_with fail
                  refine wp_region_over_lit (by kernel_rfl) (by kernel_rfl) ?_; (repeat (go_big_quiet_step ((go_at_call 160; exact Calls.over_of (HC1.out _))))); refine wpQuiet_nil ?_; rintro _ ⟨x1, rfl⟩
                  have HS3 := Lib.hid (HS.out.ext ⟨x1, rfl⟩)
                  clear HS r1 r2 r3 s1 s2 s3
                  go_wp2
                  go_roundw
                  case rel => exact ⟨j + 1, true, by omega, by go_num, rfl, HKP2, HS3⟩
                  case measure => simp [intOf]; omega
                · have HC1 := Lib.hid (fun w' => HHO.out w' DD k j HIK.out HIJ.out _ h1)
                  cases h2 : subH (hasH kind W DD) (y * W) k j
                  · have HC2 := Lib.hid (fun w' hx => HIN.out w' hx DD k j HIK.out HIJ.out _ h2)
                    have HKP2 : Hid (true = !AN (j + 1)) := by
                      show _ = _
                      rw [HANS.out, HAJ.out]
                      unfold beat1
                      rw [h2]
                      simp
                    clear HKP HAJ ekj h1 h2
                    generalize DD.getD j (0, 0, 0) = dj at *
                    generalize DD.getD k (0, 0, 0) = dk at *
                    obtain ⟨j1, j2, j3⟩ := dj
                    obtain ⟨k1, k2, k3⟩ := dk
                    dsimp only at r1 r2 r3 s1 s2 s3 HC1 HC2
                    have HXP := Lib.hid (HX2.out.trans HS.out.1)
                    go_wp2_with fail
                    refine wp_region_over_lit (by kernel_rfl) (by kernel_rfl) ?_; (repeat (go_big_quiet_step ((first | (go_at_call 160; exact Calls.over_of (HC1.out _)) | (go_at_call 215; exact Calls.over_of (HC2.out _ (HXP.out.over _))))))); refine wpQuiet_nil ?_; rintro _ ⟨x1, rfl⟩
                    have HS3 := Lib.hid (HS.out.ext ⟨x1, rfl⟩)
                    clear HS r1 r2 r3 s1 s2 s3
                    go_wp2
                    go_roundw
                    case rel => exact ⟨j + 1, true, by omega, by go_num, rfl, HKP2, HS3⟩
                    case measure => simp [intOf]; omega
                  · have HC2 := Lib.hid (fun w' hx => HIN.out w' hx DD k j HIK.out HIJ.out _ h2)
                    have HKP2 : Hid (∀ t, t = (decide (k < j) && subH (hasH kind W DD) (y * W) j k) → t = !AN (j + 1)) := fun t ht => by
                      rw [ht, HANS.out, HAJ.out]
                      unfold beat1
                      rw [h2, decide_eq_true ekj]
                      by_cases h : k < j
                      · rw [decide_eq_true h, decide_eq_false (by omega)]; simp
                      · rw [decide_eq_false h, decide_eq_true (by omega)]; simp
                    have HXP := Lib.hid (HX2.out.trans HS.out.1)
                    by_cases h3 : k < j
                    · cases h4 : subH (hasH kind W DD) (y * W) j k
                      all_goals
                        have HC3 := Lib.hid (fun w' hx => HIN.out w' hx DD j k HIJ.out HIK.out _ h4)
                        have HKP3 := Lib.hid (HKP2.out _ rfl)
                        rw [h4, decide_eq_true h3, Bool.true_and] at HKP3
                        have d1 : decide (k < j) = true := decide_eq_true h3
                        clear HKP HAJ ekj h1 h2 h3 h4 HKP2
                        generalize DD.getD j (0, 0, 0) = dj at *
                        generalize DD.getD k (0, 0, 0) = dk at *
                        obtain ⟨j1, j2, j3⟩ := dj
                        obtain ⟨k1, k2, k3⟩ := dk
                        dsimp only at r1 r2 r3 s1 s2 s3 HC1 HC2 HC3
                        go_wp2_with fail
                        refine wp_region_over_lit (by kernel_rfl) (by kernel_rfl) ?_; (repeat (go_big_quiet_step ((first | (go_at_call 160; exact Calls.over_of (HC1.out _)) | (go_at_call 215; exact Calls.over_of (HC2.out _ (HXP.out.over _))))))); refine wpQuiet_nil ?_; rintro _ ⟨x1, rfl⟩
                        have HS3 := Lib.hid (HS.out.ext ⟨x1, rfl⟩)
                        have HXQ := Lib.hid (HX2.out.trans HS3.out.1)
                        replace r1 : (wp.over x1).cell? _ = _ := World.Ext.cell ⟨_, rfl⟩ r1
                        replace r2 : (wp.over x1).cell? _ = _ := World.Ext.cell ⟨_, rfl⟩ r2
                        replace r3 : (wp.over x1).cell? _ = _ := World.Ext.cell ⟨_, rfl⟩ r3
                        replace s1 : (wp.over x1).cell? _ = _ := World.Ext.cell ⟨_, rfl⟩ s1
                        replace s2 : (wp.over x1).cell? _ = _ := World.Ext.cell ⟨_, rfl⟩ s2
                        replace s3 : (wp.over x1).cell? _ = _ := World.Ext.cell ⟨_, rfl⟩ s3
                        clear HS HXP
                        generalize wp.over x1 = wz at *
                        go_wp2_with fail
                        refine wp_region_over_lit (by kernel_rfl) (by kernel_rfl) ?_
                        (repeat (go_big_quiet_step ((go_at_call 215; exact Calls.over_of (HC3.out _ (HXQ.out.over _))))))
                        refine wpQuiet_nil ?_
                        rintro _ ⟨x2, rfl⟩
                        have HS4 := Lib.hid (HS3.out.ext ⟨x2, rfl⟩)
                        clear HS3 r1 r2 r3 s1 s2 s3
                        go_wp2
                        go_roundw
                        case rel => exact ⟨j + 1, _, by omega, by go_num, rfl, HKP3, HS4⟩
                        case measure => simp [intOf]; omega
                    · have HKP3 := Lib.hid (HKP2.out _ rfl)
                      rw [decide_eq_false h3, Bool.false_and] at HKP3
                      have d1 : decide (k < j) = false := decide_eq_false h3
                      clear HKP HAJ ekj h1 h2 h3 HKP2
                      generalize DD.getD j (0, 0, 0) = dj at *
                      generalize DD.getD k (0, 0, 0) = dk at *
                      obtain ⟨j1, j2, j3⟩ := dj
                      obtain ⟨k1, k2, k3⟩ := dk
                      dsimp only at r1 r2 r3 s1 s2 s3 HC1 HC2
                      go_wp2_with fail
                      refine wp_region_over_lit (by kernel_rfl) (by kernel_rfl) ?_; (repeat (go_big_quiet_step ((first | (go_at_call 160; exact Calls.over_of (HC1.out _)) | (go_at_call 215; exact Calls.over_of (HC2.out _ (HXP.out.over _))))))); refine wpQuiet_nil ?_; rintro _ ⟨x1, rfl⟩
                      have HS3 := Lib.hid (HS.out.ext ⟨x1, rfl⟩)
                      clear HS HXP r1 r2 r3 s1 s2 s3
                      generalize wp.over x1 = wz at *
                      go_wp2_with fail
                      refine wp_region_over_lit (by kernel_rfl) (by kernel_rfl) ?_
                      (repeat (go_big_quiet_step (fail)))
                      refine wpQuiet_nil ?_
                      rintro _ ⟨x2, rfl⟩
                      have HS4 := Lib.hid (HS3.out.ext ⟨x2, rfl⟩)
                      clear HS3
                      go_wp2
                      go_roundw
                      case rel => exact ⟨j + 1, false, by omega, by go_num, rfl, HKP3, HS4⟩
                      case measure => simp [intOf]; omega
            · have HKB : Hid (kp = !beatB (hasH kind W DD) DD.length (y * W) k) := by
                show _ = _
                by_cases hjn : j < DD.length
                · have hkp : kp = false := by
                    cases kp
                    · rfl
                    · exact absurd ⟨hjn, rfl⟩ hgo
                  subst hkp
                  have : AN j = true := of_false_not HKP.out
                  rw [HANB.out j hj this]
                  rfl
                · have : j = DD.length := by omega
                  rw [HANE.out, ← this]
                  exact HKP.out
              clear HANB HANE HANS HAN0 HKP
              by_cases hjn : j < DD.length
              · have hkp : kp = false := by
                  cases kp
                  · rfl
                  · exact absurd ⟨hjn, rfl⟩ hgo
                subst hkp
                have hltj' : (j : Int) < (DD.length : Int) := by omega
                have HK2 : Hid (K (k + 1) = K k) := by show _ = _; rw [HKS.out, if_pos (of_false_not HKB.out)]
                clear hgo HKB
                go_wp2
                go_roundw
                case rel => exact ⟨k + 1, by omega, by go_num, by rw [HK2.out]; exact HS⟩
                case measure => simp [intOf]; omega
              · have hnl : ¬ (j : Int) < (DD.length : Int) := by omega
                clear hgo
                cases kp
                · have HK2 : Hid (K (k + 1) = K k) := by show _ = _; rw [HKS.out, if_pos (of_false_not HKB.out)]
                  clear HKB
                  go_wp2
                  go_roundw
                  case rel => exact ⟨k + 1, by omega, by go_num, by rw [HK2.out]; exact HS⟩
                  case measure => simp [intOf]; omega
                · have HQ : Hid (pickD DD (K (k + 1)) = pickD DD (K k) ++ [DD.getD k (0, 0, 0)]) := by show _ = _; rw [HKS.out, if_neg (by rw [of_true_not HKB.out]; decide), pickD_snoc]
                  clear HKB
                  obtain ⟨b1, o1, rfl, r1, r2, r3⟩ := (HDR.out wp HS.out.1).at hltk
                  have HB1 : Hid ((pickD DD (K k)).length + 1 ≤ maxLen) := by show _ ≤ _; have h1 := HKL.out k; unfold maxLen; omega
                  have HB2 : Hid (((pickD DD (K k)).length + 1) * 24 ≤ 140737488355328) := by show _ ≤ _; have h1 := HKL.out k; omega
                  have HNEXT : Hid (∀ (o : Obj) (v' : Value) (w4 : World), (wp.alloc o).grownBy w4 u9.ownBlock → w4.ownsRow w2.heap.size 98 3 v' ((pickD DD (K k)).length + 1) ((flatD (pickD DD (K k))).map (Value.int .i64) ++ [.int .i64 (DD.getD k (0, 0, 0)).1, .int .i64 (DD.getD k (0, 0, 0)).2.1, .int .i64 (DD.getD k (0, 0, 0)).2.2]) → Hid (DlSt w2 v' (pickD DD (K (k + 1))) w4)) := fun o v' w4 hgrow hown' => DlSt.next HS.out HQ.out hgrow hown'
                  have hown := HS.out.2
                  unfold GrowD at hown
                  have HLE : ∀ o' : Obj, w2.heap.size ≤ (wp.alloc o').heap.size := fun o' => (HS.out.1.alloc o').size
                  clear HS HQ
                  generalize pickD DD (K k) = ps at *
                  generalize DD.getD k (0, 0, 0) = dk at *
                  obtain ⟨k1, k2, k3⟩ := dk
                  dsimp only at r1 r2 r3 HNEXT
                  go_wp2_with (at_builtin; refine wpList_append_own _ rfl _ _ 88 rfl w2.heap.size 98 i0 (.agg #[.int .i64 0, .int .i64 0, .int .i64 0]) 3 24 Try.underlying88 hi hz0 hz1 hz2 rfl (by decide) _ _ _ rfl (hown.alloc _) ⟨wp.heap.size, 0, none⟩ 1 1 [.int .i64 k1, .int .i64 k2, .int .i64 k3] rfl rfl (cell_three_at (by simp)) (by simp [Value.oneCell']) HB1.out HB2.out (HLE _) (fun v' w4 hown' hgrow _ => ?_); have HS9 := HNEXT.out _ _ _ hgrow hown'; clear hgrow hown' hown)
                  go_roundw
                  case rel => exact ⟨k + 1, by omega, by go_num, HS9⟩
                  case measure => simp [intOf]; omega
        · have hke : k = DD.length := by omega
          have hnl : ¬ (k : Int) < (DD.length : Int) := by omega
          have HS2 : Hid (DlSt w2 u9 (pickD DD (K DD.length)) wo) := by rw [← hke]; exact HS
          clear HS
          obtain ⟨a9, c9, rfl, _⟩ := HS2.out.2.form
          have HR : Hid (DiscsRet w (pickD DD (K DD.length)) (.returned (.slice a9 (pickD DD (K DD.length)).length c9)) wo) := ⟨a9, c9, rfl, HX2.out.trans HS2.out.1, HS2.out.2.own.mono HX2.out.size (Nat.le_refl _)⟩
          clear HS2
          go_wp2
          go_ret
          exact HR.out
end Go.Proofs.Ytahhnjoeaodcjaa
