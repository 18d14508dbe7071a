/- MaximaOf: the program's side. -/
import Derived.Test.YthgkmaccbcpaeaaGtF
namespace Go.Proofs.Ythgkmaccbcpaeaa
open Go Go.RowKit
noncomputable def maxL (W H : Nat) (l : List Int) : List Bool := mkl W H fun x y => !decide (lastIn W H l (nodeL W H l) (y * W + x) ∈ parT W H l (nodeL W H l))
noncomputable def maxR (m : List (List Int)) : List ByteArray := if tableOk m 99 then picRows (m.getD 0 []).length m.length (maxL (m.getD 0 []).length m.length m.flatten) else []
theorem maxL_len (W H : Nat) (l : List Int) : (maxL W H l).length = H * W := mkl_len _ _ _
theorem maxR_bnd (m : List (List Int)) : (maxR m).length ≤ 1048576 := by
  unfold maxR
  cases hk : tableOk m 99
  · rw [if_neg (by simp)]; simp
  · rw [if_pos rfl, picRows_len]
    have := (tableOk_spec hk).2.1
    omega
theorem maxR_no {m : List (List Int)} {w w' : World} (hx : w.Ext w') (hk : tableOk m 99 = false) : PicRet2 w (maxR m) (tableOk m 99) (.returned (.tuple #[.agg #[.slice none 0 0], .bool false])) w' := by
  unfold maxR
  rw [hk]
  exact ⟨none, 0, rfl, hx, OwnOf.nil _ _⟩
set_option maxHeartbeats 400000 in
theorem indexI64_any (a : Option Addr) (c : Nat) (l : List Int) (t : Int) (w : World) (hn : l.length ≤ 65536) (hr : RowI w a l) :
    Calls Try.prog 121 #[.slice a l.length c, .int .i64 t] w fun e w' => (∃ z : Int, e = .returned (.int .i64 z) ∧ decide (0 ≤ z) = decide (t ∈ l)) ∧ w.Ext w' := by
  have HR := Lib.hid hr
  have HME : Hid (∀ k, k < l.length → l.getD k 0 = t → decide (t ∈ l) = true) := fun k hk e => by
    rw [decide_eq_true_iff, ← e, List.getD_eq_getElem?_getD, List.getElem?_eq_getElem hk]
    exact List.getElem_mem hk
  have HNO : Hid ((∀ k, k < l.length → l.getD k 0 ≠ t) → decide (t ∈ l) = false) := fun h => by
    rw [decide_eq_false_iff_not]
    intro hm
    obtain ⟨k, hk, e⟩ := List.mem_iff_getElem.1 hm
    exact h k hk (by rw [List.getD_eq_getElem?_getD, List.getElem?_eq_getElem hk]; exact e)
  clear hr
  generalize decide (t ∈ l) = res at *
  go_enter Try.func121, Try.ntmps121
  go_wp2
  go_loop [5, 8] (fun _ i => ∃ k : Nat, k ≤ l.length ∧ i = .int .i64 k ∧ Hid (∀ j, j < k → l.getD j 0 ≠ t)) (fun _ i => l.length - (intOf i).toNat)
  case atStart => exact ⟨0, Nat.zero_le _, rfl, fun j hj => by omega⟩
  case round =>
    obtain ⟨k, hk, rfl, HK⟩ := hrel
    by_cases hlt : k < l.length
    · obtain ⟨b, o, rfl, hc⟩ := HR.out k hlt
      have hlt' : (k : Int) < (l.length : Int) := by omega
      have hk0 : (0 : Int) ≤ (k : Int) := by omega
      by_cases e : l.getD k 0 = t
      · have HT := Lib.hid (HME.out k hlt e)
        have he : (t == l.getD k 0) = true := by simpa using e.symm
        clear e
        generalize l.getD k 0 = z at *
        go_wp2
        go_ret
        rw [HT.out]
        exact ⟨⟨_, rfl, by simp⟩, .refl _⟩
      · have HK2 : Hid (∀ j, j < k + 1 → l.getD j 0 ≠ t) := fun j hj => by
          by_cases ej : j = k
          · rw [ej]; exact e
          · exact HK.out j (by omega)
        have he : (t == l.getD k 0) = false := by simpa using Ne.symm e
        clear e HK
        generalize l.getD k 0 = z at *
        go_wp2
        go_round
        case rel => exact ⟨k + 1, by omega, by go_num, HK2⟩
        case measure => simp [intOf]; omega
    · have : k = l.length := by omega
      subst this
      have HT := Lib.hid (HNO.out HK.out)
      go_wp2
      go_ret
      rw [HT.out]
      exact ⟨⟨_, rfl, by simp⟩, .refl _⟩
set_option maxHeartbeats 400000 in
theorem containsI64_any (a : Option Addr) (c : Nat) (l : List Int) (t : Int) (w : World) (hn : l.length ≤ 65536) (hr : RowI w a l) :
    Calls Try.prog 157 #[.slice a l.length c, .int .i64 t] w fun e w' => e = .returned (.bool (decide (t ∈ l))) ∧ w.Ext w' := by
  have HI := Lib.hid (indexI64_any a c l t w hn hr)
  clear hr
  generalize decide (t ∈ l) = res at *
  go_enter Try.func157, Try.ntmps157
  go_wp2_with fail
  refine HI.out.mono ?_
  rintro e w' ⟨⟨z, rfl, hz⟩, hx⟩
  have HX := Lib.hid hx
  have HZ := Lib.hid hz
  clear hx hz
  go_wp2
  go_ret
  exact ⟨by rw [HZ.out]; rfl, HX.out⟩
set_option maxRecDepth 5000 in
set_option maxHeartbeats 1600000 in
theorem max1_any (p W H : Nat) (l : List Int) (a1 a2 a3 a4 : Option Addr) (c2 c4 : Nat) (A : Nat → Option Addr) (C : Nat → Nat) (x y : Nat) (w : World) (hx : x < W) (hy : y < H) (hnl : (nodeL W H l).length ≤ 256)
    (hp : w.cell? ⟨p, 1, none⟩ = some (.slice a2 (nodeL W H l).length c2)) (hp3 : w.cell? ⟨p, 3, none⟩ = some (.slice a4 H c4)) (hg : RowG w a1 a2 a3 a4 A C (gtR W H l)) :
    Calls Try.prog 156 #[.int .i64 x, .int .i64 y, .pointer (some ⟨p, 0, none⟩)] w fun e w' => e = .returned (.bool (!decide (lastIn W H l (nodeL W H l) (y * W + x) ∈ parT W H l (nodeL W H l)))) ∧ w.Ext w' := by
  obtain ⟨-, g2, -, g4⟩ := hg
  have hlen : (grl W H (nodT W H l (nodeL W H l))).length = H := grl_len _ _ _
  have hrl : ((grl W H (nodT W H l (nodeL W H l))).getD y []).length = W := grl_row hy
  obtain ⟨⟨b0, o0, rfl, d0⟩, r4⟩ := g4 y (by show y < (grl _ _ _).length; rw [hlen]; exact hy)
  obtain ⟨b1, o1, e1, d1⟩ := r4 x (by show x < ((grl _ _ _).getD y []).length; rw [hrl]; exact hx)
  rw [e1] at d0
  have hv : ((grl W H (nodT W H l (nodeL W H l))).getD y []).getD x 0 = lastIn W H l (nodeL W H l) (y * W + x) := by
    have hb := Nat.mul_le_mul_right W (show y + 1 ≤ H by omega)
    rw [Nat.succ_mul] at hb
    rw [grl_at hx hy, nodT_at (by omega)]
  have d1' : w.cell? ⟨b1, o1 + x, none⟩ = some (.int .i64 (lastIn W H l (nodeL W H l) (y * W + x))) := by rw [← hv]; exact d1
  have d0' : w.cell? ⟨b0, o0 + y, none⟩ = some (.slice (some ⟨b1, o1, none⟩) W (C y)) := by rw [← hrl]; exact d0
  have HC : Hid (∀ x1, Calls Try.prog 157 #[.slice a2 (nodeL W H l).length c2, .int .i64 (lastIn W H l (nodeL W H l) (y * W + x))] (w.over x1) fun e w' => e = .returned (.bool (decide (lastIn W H l (nodeL W H l) (y * W + x) ∈ parT W H l (nodeL W H l)))) ∧ (w.over x1).Ext w') := fun x1 => by
    have h := containsI64_any a2 c2 (parT W H l (nodeL W H l)) (lastIn W H l (nodeL W H l) (y * W + x)) (w.over x1) (by rw [parT_len]; omega) (RowI.ext g2 ⟨x1, rfl⟩)
    rw [parT_len] at h
    exact h
  clear g2 g4 hlen hrl d0 r4 e1 d1 hv
  have hx0 : (0 : Int) ≤ (x : Int) := by omega
  have hy0 : (0 : Int) ≤ (y : Int) := by omega
  have hx' : (x : Int) < (W : Int) := by omega
  have hy' : (y : Int) < (H : Int) := by omega
  generalize decide (lastIn W H l (nodeL W H l) (y * W + x) ∈ parT W H l (nodeL W H l)) = res at *
  generalize lastIn W H l (nodeL W H l) (y * W + x) = z at *
  generalize (nodeL W H l).length = n at *
  generalize C y = cy at *
  go_enter Try.func156, Try.ntmps156
  go_wp2_with fail
  refine wp_region_over_lit (by kernel_rfl) (by kernel_rfl) ?_; (repeat (go_big_quiet_step ((go_at_call 157; exact Calls.over_of (HC.out _))))); refine wpQuiet_nil ?_; rintro _ ⟨x1, rfl⟩
  go_wp2
  go_ret
  exact ⟨rfl, ⟨x1, rfl⟩⟩
theorem enters_max1 : Enters 156 := enters_of Try.func156 (by kernel_rfl) (by kernel_rfl)
set_option maxRecDepth 5000 in
set_option maxHeartbeats 3200000 in
theorem implMaximaOf_any (a : Option Addr) (c : Nat) (A : Nat → Option Addr) (C : Nat → Nat) (m : List (List Int)) (w : World) (hb : MatBnd m) (hm : MatAt w a A C m) :
    Calls Try.prog 60 #[.agg #[.slice a m.length c]] w (PicRet2 w (maxR m) (tableOk m 99)) := by
  obtain ⟨W0, hW0⟩ : ∃ W0, W0 = (w.alloc (.cells #[.slice a m.length c] 84)).alloc (.cells #[.slice none 0 0] 26) := ⟨_, rfl⟩
  have hx0 : w.Ext W0 := by rw [hW0]; repeat (first | exact World.Ext.refl _ | exact ⟨_, rfl⟩ | assumption | refine World.Ext.over ?_ _ | refine World.Ext.drewN ?_ _ | refine World.Ext.drew ?_ | refine World.Ext.alloc ?_ _ | refine World.Ext.setCell ?_ (by simp) _)
  have d0 : W0.cell? ⟨w.heap.size, 0, none⟩ = some (.slice a m.length c) := by rw [hW0]; simp [go_sem]
  have hone : One W0 (w.heap.size + 1) 26 (.slice none 0 0) := by rw [hW0]; exact One.new _ _ _ _ (by simp)
  have HI : Hid (Calls Try.prog 145 #[.agg #[.slice a m.length c]] W0 fun e w' => e = .returned (.bool (tableOk m 99)) ∧ W0.Ext w') := validGrey_any a c A C m W0 hb.1 hb.2 (hm.ext hx0) _ rfl
  have HX0 := Lib.hid hx0
  have HO := Lib.hid hone
  have hl0 : w.heap.size + 1 < W0.heap.size := hone.lt
  cases hok : tableOk m 99
  · rw [hok] at HI
    have HN := Lib.hid (fun w' (hx : w.Ext w') => maxR_no (m := m) hx hok)
    rw [hok] at HN
    clear hb hm hx0 d0 hone hok
    go_enter Try.func60, Try.ntmps60
    go_wp2_with fail
    rw [← hW0]
    refine HI.out.mono ?_
    rintro e w1 ⟨rfl, hx1⟩
    have h1 := HO.out.ext hx1
    have r1 := h1.cell
    have r2 := h1.free
    have r3 := (h1.set (.slice none 0 0)).cell
    have HXF := Lib.hid (HX0.out.trans hx1)
    clear h1 hx1 hW0
    go_wp2
    refine bodyPost_ret (v := .tuple #[.agg #[.slice none 0 0], .bool false]) (by simp [results, Try.results60, go_sem, r3]) rfl (HN.out _ ?_)
    exact HXF.out.setCell (by simp) _
  · rw [hok] at HI
    obtain ⟨v1, v2, v3, v4, v5, v6⟩ := tableOk_spec hok
    have hgl := grL_table hok
    have hnn : m.length * (m.getD 0 []).length ≤ 256 := Nat.mul_le_mul v2 v4
    have hnl : (nodeL (m.getD 0 []).length m.length m.flatten).length ≤ 256 := Nat.le_trans (nodeL_len hgl) hnn
    have HGT := Lib.hid (fun w' (hx : W0.Ext w') => greyTree_any w.heap.size (m.getD 0 []).length m.length m.flatten w' v3 v1 v4 v2 (GrAt.of hok (hx.cell d0) ((hm.ext hx0).ext hx)) hgl)
    have HSZ := Lib.hid (fun w' (hx : W0.Ext w') => sizes_any w.heap.size a c A C m w' (by omega) (hx.cell d0) ((hm.ext hx0).ext hx))
    have HMA : Hid (∀ (w' : World) (p : Nat) (a1 a2 a3 a4 : Option Addr) (c2 c4 : Nat) (A : Nat → Option Addr) (C : Nat → Nat), w'.cell? ⟨p, 1, none⟩ = some (.slice a2 (nodeL (m.getD 0 []).length m.length m.flatten).length c2) → w'.cell? ⟨p, 3, none⟩ = some (.slice a4 m.length c4) → RowG w' a1 a2 a3 a4 A C (gtR (m.getD 0 []).length m.length m.flatten) →
        Calls Try.prog 155 #[.int .i64 ((m.getD 0 []).length : Nat), .int .i64 (m.length : Nat), .func (.func 156) #[] #[.pointer (some ⟨p, 0, none⟩)]] w' (ImgRet w' (m.getD 0 []).length m.length (maxL (m.getD 0 []).length m.length m.flatten))) := fun w' p a1 a2 a3 a4 c2 c4 A C h1 h3 hg =>
      made_any _ _ _ _ _ w' (by omega) (by omega) enters_max1 fun w'' hx x y hxW hyH => max1_any p _ _ _ a1 a2 a3 a4 c2 c4 A C x y w'' hxW hyH hnl (hx.cell h1) (hx.cell h3) (hg.ext hx)
    have HTO := Lib.hid (fun b ab (w' : World) hI => told_any b ab (m.getD 0 []).length m.length (maxL (m.getD 0 []).length m.length m.flatten) w' v3 (by omega) (by omega) hI)
    have HRM : Hid (maxR m = picRows (m.getD 0 []).length m.length (maxL (m.getD 0 []).length m.length m.flatten)) := by unfold maxR; rw [hok]; rfl
    have hrl : (picRows (m.getD 0 []).length m.length (maxL (m.getD 0 []).length m.length m.flatten)).length = m.length := picRows_len _ _ _
    have HRL := Lib.hid hrl
    have HLG : Hid (levT (nodeL (m.getD 0 []).length m.length m.flatten) = levT (nodeL (m.getD 0 []).length m.length m.flatten)) := rfl
    clear hb hm hx0 d0 hone hok v5 v6 hgl hnn hnl hrl
    rw [HRM.out]
    generalize picRows (m.getD 0 []).length m.length (maxL (m.getD 0 []).length m.length m.flatten) = R at *
    generalize maxL (m.getD 0 []).length m.length m.flatten = ml at *
    generalize m.flatten = l at *
    generalize (m.getD 0 []).length = W at *
    generalize m.length = H at *
    go_enter Try.func60, Try.ntmps60
    go_wp2_with fail
    rw [← hW0]
    clear hW0
    refine HI.out.mono ?_
    rintro e w1 ⟨rfl, hx1⟩
    have HX1 := Lib.hid hx1
    clear hx1 HI
    go_wp2_with fail
    refine (HGT.out w1 HX1.out).mono ?_
    rintro e w2 ⟨a1, a2, a3, a4, c1, c2, c3, c4, A4, C4, rfl, hx2, ho2⟩
    have HRG := Lib.hid ho2.row
    have HX2 := Lib.hid (HX1.out.trans hx2)
    clear hx2 ho2 HGT HX1
    unfold gtV gtR
    dsimp only
    rw [levT_len, parT_len, areT_len, grl_len]
    generalize (nodeL W H l).length = N at *
    obtain ⟨W3, hW3⟩ : ∃ W3, W3 = w2.alloc (.cells #[.slice a1 N c1, .slice a2 N c2, .slice a3 N c3, .slice a4 H c4] 200) := ⟨_, rfl⟩
    have hx3 : w2.Ext W3 := by rw [hW3]; repeat (first | exact World.Ext.refl _ | exact ⟨_, rfl⟩ | assumption | refine World.Ext.over ?_ _ | refine World.Ext.drewN ?_ _ | refine World.Ext.drew ?_ | refine World.Ext.alloc ?_ _ | refine World.Ext.setCell ?_ (by simp) _)
    have HQ : Hid (Qua W3 w2.heap.size 200 (.slice a1 N c1) (.slice a2 N c2) (.slice a3 N c3) (.slice a4 H c4)) := by rw [hW3]; exact Qua.new _ _ _ _ _ _ _ rfl
    have HX3 := Lib.hid (HX2.out.trans hx3)
    have HRG3 := Lib.hid (HRG.out.ext hx3)
    clear hx3 HX2 HRG
    go_wp2_with fail
    rw [← hW3]
    clear hW3
    refine (HSZ.out W3 HX3.out).mono ?_
    rintro e w4 ⟨rfl, hx4⟩
    have HX4 := Lib.hid (HX3.out.trans hx4)
    have HM4 := Lib.hid (HMA.out w4 w2.heap.size a1 a2 a3 a4 c2 c4 A4 C4 (HQ.out.ext hx4).cell1 (HQ.out.ext hx4).cell3 (HRG3.out.ext hx4))
    clear hx4 HSZ HX3 HMA
    go_wp2_with fail
    refine HM4.out.mono ?_
    rintro e w5 ⟨b, ab, rfl, hx5, hI, -, -⟩
    have HI5 := Lib.hid hI
    have HX5 := Lib.hid (HX4.out.trans hx5)
    clear hx5 hI HM4 HX4
    go_wp2_with fail
    refine (HTO.out b ab w5 HI5.out).mono ?_
    rintro e w6 ⟨a6, c6, rfl, hx6, ho6⟩
    rw [HRL.out]
    obtain ⟨r1, r2, r3, HR⟩ := Res.store (.slice a6 H c6) (HX0.out.trans (HX5.out.trans hx6)) (by omega) (HO.out.ext (HX5.out.trans hx6)) (Nat.lt_of_lt_of_le hl0 HX5.out.size) ho6
    clear hx6 ho6 HI5
    go_wp2
    exact bodyPost_ret (v := .tuple #[.agg #[.slice a6 H c6], .bool true]) (by simp [results, Try.results60, go_sem, r3]) rfl ⟨a6, c6, by rw [HRL.out], HR.out.1, HR.out.2⟩
end Go.Proofs.Ythgkmaccbcpaeaa
