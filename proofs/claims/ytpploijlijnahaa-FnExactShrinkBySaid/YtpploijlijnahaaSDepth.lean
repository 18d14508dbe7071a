/- The reference's depths. -/
import Derived.Test.YtpploijlijnahaaWhite
import Derived.Test.YtpploijlijnahaaIGrid
namespace Go.Proofs.Ytpploijlijnahaa
open Go.RowKit
set_option maxRecDepth 5000 in
set_option maxHeartbeats 3200000 in
theorem l06Depths_any (p : Nat) (kind : Int) (a : Option Addr) (c : Nat) (ss : List ByteArray) (w : World) (he : Even ss) (hW : picW ss ≤ 38) (hH : ss.length ≤ 38)
    (hp : w.cell? ⟨p, 0, none⟩ = some (.slice a ss.length c)) (hm : RowS w a ss) :
    Calls Try.prog 148 #[.pointer (some ⟨p, 0, none⟩), .int .i64 kind] w (MatRet w (grd (picW ss) ss.length (depI kind (picW ss) ss.length (picL ss)))) := by
  obtain ⟨i0, hi, hz0, hz1, hz2⟩ := info_parts Try.infoI64G
  obtain ⟨j0, hj, hy0, hy1, hy2⟩ := info_parts Try.infoRowG
  have HW0 := Lib.hid (l01Width_any p a c ss w he.1 (by omega) (by omega) hp hm)
  have HH0 : Hid (∀ w', w.Ext w' → Calls Try.prog 86 #[.pointer (some ⟨p, 0, none⟩)] w' fun e w'' => e = .returned (.int .i64 ss.length) ∧ w'.Ext w'') := fun w' hx => l01Height_any p a c ss.length w' (by omega) (hx.cell hp)
  have HBL : Hid (∀ w', w.Ext w' → ∀ i j : Nat, i < picW ss + 2 → j < ss.length + 2 → ∀ t, pxl (picW ss) ss.length (picL ss) ((i : Int) - 1) ((j : Int) - 1) = t → Calls Try.prog 89 #[.pointer (some ⟨p, 0, none⟩), .int .i64 ((i : Int) - 1), .int .i64 ((j : Int) - 1)] w' fun e w'' => e = .returned (.bool t) ∧ w'.Ext w'') := fun w' hx i j h1 h2 t ht =>
    l01Black_any p a c ss _ _ w' he (by omega) (by omega) (hx.cell hp) (RowOf.ext hm hx) _ ht
  have HFA : Hid (∀ (w' : World) (x y i j : Nat), x < picW ss → y < ss.length → i < picW ss + 2 → j < ss.length + 2 → Calls Try.prog 183 #[.int .i64 kind, .int .i64 x, .int .i64 y, .int .i64 ((i : Int) - 1), .int .i64 ((j : Int) - 1)] w' fun e w'' => e = .returned (.int .i64 (farI kind (x, y) ((i : Int) - 1, (j : Int) - 1))) ∧ w'.Ext w'') := fun w' x y i j h1 h2 h3 h4 => l06Far_any kind x y _ _ w' (by omega) (by omega) (by omega) (by omega) _ rfl
  clear hm he hp
  generalize picL ss = L at *
  generalize picW ss = W at *
  generalize ss.length = H at *
  obtain ⟨P, hP⟩ : ∃ P, P = whiteP W H L := ⟨_, rfl⟩
  have HP : Hid (∀ i j, P i j = !pxl W H L i j) := fun i j => by rw [hP]; rfl
  have HDI : Hid (∀ x y : Nat, depI kind W H L x y = depthTo kind (W + 2) P (x, y) ((H + 2) * (W + 2))) := fun x y => by unfold depI; rw [hP]
  clear hP
  generalize depI kind W H L = g at *
  go_enter Try.func148, Try.ntmps148
  go_wp2_with fail
  refine HW0.out.mono ?_
  rintro e w1 ⟨rfl, hx1⟩
  have HX1 := Lib.hid hx1
  go_wp2_with fail
  refine (HH0.out _ hx1).mono ?_
  rintro e w2 ⟨rfl, hx2⟩
  have HST := Lib.hid (GrdSt.start (hx1.trans hx2) W g)
  clear hx1 hx2 HW0 HH0
  go_wp2
  go_loopw [7, 8, 9, 10, 11, 12, 13, 14] (fun v i _ _ _ _ _ _ wr => ∃ y : Nat, y ≤ H ∧ i = .int .i64 y ∧ Hid (GrdSt w W g v y wr)) (fun _ i _ _ _ _ _ _ _ => H - (intOf i).toNat)
  case atStart => exact ⟨0, Nat.zero_le _, rfl, HST⟩
  case round =>
    obtain ⟨y, hy, rfl, HS⟩ := hrel
    clear HST
    obtain ⟨wo, rfl⟩ : ∃ wo : World, wo = wr := ⟨_, rfl⟩
    by_cases hlty : y < H
    · have hlty' : (y : Int) < (H : Int) := by omega
      have HR0 := Lib.hid (RowSt.start wo g y)
      go_wp2
      go_loopw [9, 10, 11, 12, 13, 14] (fun u i _ _ _ _ wr => ∃ x : Nat, x ≤ W ∧ i = .int .i64 x ∧ Hid (RowSt wo g u y x wr)) (fun _ i _ _ _ _ _ => W - (intOf i).toNat)
      case atStart => exact ⟨0, Nat.zero_le _, rfl, HR0⟩
      case round =>
        obtain ⟨x, hx, rfl, HR⟩ := hrel
        clear HR0
        obtain ⟨wp, rfl⟩ : ∃ wp : World, wp = wr := ⟨_, rfl⟩
        by_cases hltx : x < W
        · have hltx' : (x : Int) < (W : Int) := by omega
          go_wp2
          go_loopw [11, 12, 13, 14] (fun m j _ _ wr => ∃ k : Nat, k ≤ H + 2 ∧ j = .int .i64 ((k : Int) - 1) ∧ m = .int .i64 (depthTo kind (W + 2) P (x, y) (k * (W + 2))) ∧ Hid (wp.Ext wr)) (fun _ j _ _ _ => H + 2 - (intOf j + 1).toNat)
          case atStart => exact ⟨0, Nat.zero_le _, rfl, by rw [Nat.zero_mul]; rfl, .refl _⟩
          case round =>
            obtain ⟨j, hj, rfl, rfl, HX⟩ := hrel
            obtain ⟨wq, rfl⟩ : ∃ wq : World, wq = wr := ⟨_, rfl⟩
            by_cases hltj : j < H + 2
            · have hltj' : (j : Int) - 1 ≤ (H : Int) := by omega
              go_wp2
              go_loopw [11, 13, 14] (fun m i _ wr => ∃ k : Nat, k ≤ W + 2 ∧ i = .int .i64 ((k : Int) - 1) ∧ m = .int .i64 (depthTo kind (W + 2) P (x, y) (j * (W + 2) + k)) ∧ Hid (wp.Ext wr)) (fun _ i _ _ => W + 2 - (intOf i + 1).toNat)
              case atStart => exact ⟨0, Nat.zero_le _, rfl, rfl, HX⟩
              case round =>
                obtain ⟨i, hi', rfl, rfl, HX⟩ := hrel
                by_cases hlti : i < W + 2
                · have hlti' : (i : Int) - 1 ≤ (W : Int) := by omega
                  have HF := Lib.hid (fun w' => HFA.out w' x y i j hltx hlty hlti hltj)
                  have HXX := Lib.hid (HS.out.x.trans HR.out.1)
                  have HPB := HP.out ((i : Int) - 1) ((j : Int) - 1)
                  cases hb : pxl W H L ((i : Int) - 1) ((j : Int) - 1)
                  · have HC := Lib.hid (fun w' hx => HBL.out w' (HXX.out.trans hx) i j hlti hltj _ hb)
                    rw [hb, Bool.not_false] at HPB
                    have HN := Lib.hid (depthTo_yes (kind := kind) (q := (x, y)) hlti HPB)
                    clear hb HPB
                    generalize depthTo kind (W + 2) P (↑x, ↑y) (j * (W + 2) + i) = m at HN ⊢
                    generalize farI kind (↑x, ↑y) (↑i - 1, ↑j - 1) = d at HN HF
                    go_wp2_with fail
                    refine (HF.out _).mono ?_
                    rintro e w3 ⟨rfl, hx3⟩
                    have HX3 := Lib.hid (HX.out.trans hx3)
                    clear hx3
                    go_wp2_with fail
                    refine (HC.out _ HX3.out).mono ?_
                    rintro e w4 ⟨rfl, hx4⟩
                    have HX4 := Lib.hid (HX3.out.trans hx4)
                    clear hx4 HX3 HX HF HC
                    by_cases h1 : m < 0
                    · have HN2 : Hid (d = depthTo kind (W + 2) P (x, y) (j * (W + 2) + (i + 1))) := by show _ = _; rw [← Nat.add_assoc, HN.out, if_pos (.inl h1)]
                      clear HN
                      go_wp2
                      go_roundw
                      case rel => exact ⟨i + 1, by omega, by congr 1; omega, by rw [HN2.out], HX4⟩
                      case measure => simp [intOf]; omega
                    · have h1' : 0 ≤ m := by omega
                      by_cases h2 : d < m
                      · have HN2 : Hid (d = depthTo kind (W + 2) P (x, y) (j * (W + 2) + (i + 1))) := by show _ = _; rw [← Nat.add_assoc, HN.out, if_pos (.inr h2)]
                        clear HN
                        go_wp2
                        go_roundw
                        case rel => exact ⟨i + 1, by omega, by congr 1; omega, by rw [HN2.out], HX4⟩
                        case measure => simp [intOf]; omega
                      · have HN2 : Hid (m = depthTo kind (W + 2) P (x, y) (j * (W + 2) + (i + 1))) := by show _ = _; rw [← Nat.add_assoc, HN.out, if_neg (by omega)]
                        clear HN
                        go_wp2
                        go_roundw
                        case rel => exact ⟨i + 1, by omega, by congr 1; omega, by rw [HN2.out], HX4⟩
                        case measure => simp [intOf]; omega
                  · have HC := Lib.hid (fun w' hx => HBL.out w' (HXX.out.trans hx) i j hlti hltj _ hb)
                    rw [hb, Bool.not_true] at HPB
                    have HN : Hid (depthTo kind (W + 2) P (x, y) (j * (W + 2) + i) = depthTo kind (W + 2) P (x, y) (j * (W + 2) + (i + 1))) := (depthTo_no (kind := kind) (q := (x, y)) hlti HPB).symm
                    clear hb HPB
                    generalize depthTo kind (W + 2) P (↑x, ↑y) (j * (W + 2) + i) = m at HN ⊢
                    generalize farI kind (↑x, ↑y) (↑i - 1, ↑j - 1) = d at HF
                    go_wp2_with fail
                    refine (HF.out _).mono ?_
                    rintro e w3 ⟨rfl, hx3⟩
                    have HX3 := Lib.hid (HX.out.trans hx3)
                    clear hx3
                    go_wp2_with fail
                    refine (HC.out _ HX3.out).mono ?_
                    rintro e w4 ⟨rfl, hx4⟩
                    have HX4 := Lib.hid (HX3.out.trans hx4)
                    clear hx4 HX3 HX HF HC
                    go_wp2
                    go_roundw
                    case rel => exact ⟨i + 1, by omega, by congr 1; omega, by rw [HN.out], HX4⟩
                    case measure => simp [intOf]; omega
                · have : i = W + 2 := by omega
                  subst this
                  have hge : (W : Int) < ((W + 2 : Nat) : Int) - 1 := by omega
                  go_wp2
                  go_roundw
                  case rel => exact ⟨j + 1, by omega, by congr 1; omega, by rw [Nat.succ_mul], HX⟩
                  case measure => simp [intOf]; omega
            · have : j = H + 2 := by omega
              subst this
              have hge : (H : Int) < ((H + 2 : Nat) : Int) - 1 := by omega
              have HG : Hid (depthTo kind (W + 2) P (x, y) ((H + 2) * (W + 2)) = g x y) := (HDI.out x y).symm
              generalize depthTo kind (W + 2) P (↑x, ↑y) ((H + 2) * (W + 2)) = m at HG ⊢
              have HR3 := Lib.hid (HR.out.ext HX.out)
              have hown := HR3.out.2
              unfold GrowOf at hown
              have HNEXT : Hid (∀ (o : Obj) (v' : Value) (w4 : World), (wq.alloc o).grownBy w4 u9.ownBlock → w4.ownsRow wo.heap.size 2 1 v' ((grdRow g y x).length + 1) ((grdRow g y x).map (Value.int .i64) ++ [.int .i64 m]) → Hid (RowSt wo g v' y (x + 1) w4)) := fun o v' w4 hgrow hown' => RowSt.next HR3.out hgrow (by rw [← HG.out]; exact hown')
              have HB1 : Hid ((grdRow g y x).length + 1 ≤ maxLen) := by show _ ≤ _; rw [grdRow_len]; unfold maxLen; omega
              have HB2 : Hid (((grdRow g y x).length + 1) * 8 ≤ 140737488355328) := by show _ ≤ _; rw [grdRow_len]; omega
              have HLE : ∀ o' : Obj, wo.heap.size ≤ (wq.alloc o').heap.size := fun o' => (HR3.out.1.alloc o').size
              clear HR HX HG
              generalize grdRow g y x = row at *
              go_wp2_with ((at_builtin; refine wpList_append_own _ rfl _ _ 54 rfl wo.heap.size 2 i0 (.int .i64 0) 1 8 Try.underlying54 hi hz0 hz1 hz2 rfl (by decide) _ _ _ rfl (hown.alloc _) ⟨wq.heap.size, 0, none⟩ 1 1 [.int .i64 m] rfl rfl (cell_one_new _ _ _) (by simp [Value.oneCell']) HB1.out HB2.out (HLE _) (fun v' w1 hown' hgrow _ => ?_)); have HR4 := HNEXT.out _ _ _ hgrow hown'; clear hgrow hown' hown)
              go_roundw
              case rel => exact ⟨x + 1, by omega, by go_num, HR4⟩
              case measure => simp [intOf]; omega
        · have : x = W := by omega
          subst this
          obtain ⟨A, C, hxo, hm⟩ := HS.out
          have hown := World.ownsRow.ext hm.outer HR.out.1
          obtain ⟨a, c, rfl⟩ := HR.out.form
          have HNEXT : Hid (∀ (o : Obj) (v' : Value) (w4 : World), (wp.alloc o).grownBy w4 u7.ownBlock → w4.ownsRow w.heap.size 54 1 v' ((grd x y g).length + 1) ((List.range (grd x y g).length).map (fun r => Value.slice (A r) ((grd x y g).getD r []).length (C r)) ++ [.slice a x c]) → Hid (GrdSt w x g v' (y + 1) w4)) := fun o v' w4 hgrow hown' => GrdSt.next hxo hm HR.out hgrow hown'
          have HB1 : Hid ((grd x y g).length + 1 ≤ maxLen) := by show _ ≤ _; rw [grd_len]; unfold maxLen; omega
          have HB2 : Hid (((grd x y g).length + 1) * 24 ≤ 140737488355328) := by show _ ≤ _; rw [grd_len]; omega
          have HLE : ∀ o' : Obj, w.heap.size ≤ (wp.alloc o').heap.size := fun o' => ((hxo.trans HR.out.1).alloc o').size
          clear HR hxo hm HS
          generalize (List.range (grd x y g).length).map (fun r => Value.slice (A r) ((grd x y g).getD r []).length (C r)) = pre at *
          generalize (grd x y g).length = n at *
          go_wp2_with ((at_builtin; refine wpList_append_own _ rfl _ _ 66 rfl w.heap.size 54 j0 (.slice none 0 0) 1 24 Try.underlying66 hj hy0 hy1 hy2 rfl (by decide) _ _ _ rfl (hown.alloc _) ⟨wp.heap.size, 0, none⟩ 1 1 [.slice a x c] rfl rfl (cell_one_new _ _ _) (by simp [Value.oneCell']) HB1.out HB2.out (HLE _) (fun v' w1 hown' hgrow _ => ?_)); have HS4 := HNEXT.out _ _ _ hgrow hown'; clear hgrow hown' hown)
          go_roundw
          case rel => exact ⟨y + 1, by omega, by go_num, HS4⟩
          case measure => simp [intOf]; omega
    · have : y = H := by omega
      subst this
      have HR := Lib.hid HS.out.ret
      obtain ⟨A, C, _, hm⟩ := HS.out
      obtain ⟨a, c, rfl, _⟩ := World.ownsRow.form hm.outer
      clear hm HS
      go_wp2
      go_ret
      exact HR.out
end Go.Proofs.Ytpploijlijnahaa
