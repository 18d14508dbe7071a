/- FnRuns: the program's edges, numbers of black pixels, and the law's helpers. -/
import Derived.Test.YtpdmfnndegcjjaaRunQ
import Derived.Test.YtpdmfnndegcjjaaArnd
import Derived.Test.YtpdmfnndegcjjaaGenB
namespace Go.Proofs.Ytpdmfnndegcjjaa
open Go Go.RowKit
def RunsRet (w : World) (m : List (List Int)) (e : Ending) (w' : World) : Prop := ∃ a c A C, e = .returned (.tuple #[.slice a m.length c, .bool true]) ∧ w.Ext w' ∧ MatAt w' a A C m
set_option maxHeartbeats 800000 in
theorem runsOf_any (a : Option Addr) (c : Nat) (ss : List ByteArray) (w : World) (hb : PicBnd ss) (hok : picOk ss = true) (hm : RowS w a ss) :
    Calls Try.prog 47 #[.agg #[.slice a ss.length c]] w (RunsRet w (runsTo (picW ss) (picL ss) (ss.length * picW ss))) := by
  obtain ⟨W0, hW0⟩ : ∃ W0, W0 = w.alloc (.cells #[.slice a ss.length c] 26) := ⟨_, rfl⟩
  have hx0 : w.Ext W0 := by rw [hW0]; repeat (first | exact World.Ext.refl _ | exact ⟨_, rfl⟩ | assumption | refine World.Ext.over ?_ _ | refine World.Ext.drewN ?_ _ | refine World.Ext.drew ?_ | refine World.Ext.alloc ?_ _ | refine World.Ext.setCell ?_ (by simp) _)
  obtain ⟨v1, v2, v3, v4, v5, -⟩ := picOk_spec hok
  have HI := Lib.hid (imageOf_any a c ss W0 hb.1 hb.2 (RowOf.ext hm hx0) true hok)
  have HRN : Hid (∀ w' b ab, Img w' b ab (picW ss) ss.length (picL ss) → Calls Try.prog 145 #[.pointer (some ⟨b, 0, none⟩)] w' (MatRet w' (runsTo (picW ss) (picL ss) (ss.length * picW ss)))) := fun w' b ab hI => runs_any b ab _ _ _ w' (by omega) (by omega) hI
  have HX0 := Lib.hid hx0
  clear hb hok hm hx0 v1 v2 v3 v4 v5
  generalize runsTo (picW ss) (picL ss) (ss.length * picW ss) = R at *
  go_enter Try.func47, Try.ntmps47
  go_wp2_with fail
  rw [← hW0]
  clear hW0
  refine HI.out.mono ?_
  intro e w1 h
  obtain ⟨b, ab, rfl, hx1, hI, -, -⟩ : ∃ b ab, e = .returned (.tuple #[.pointer (some ⟨b, 0, none⟩), .bool true]) ∧ W0.Ext w1 ∧ Img w1 b ab (picW ss) ss.length (picL ss) ∧ W0.heap.size ≤ b ∧ W0.heap.size ≤ ab := h
  have HC := Lib.hid (HRN.out w1 b ab hI)
  have HX1 := Lib.hid (HX0.out.trans hx1)
  clear hx1 hI
  go_wp2_with fail
  refine HC.out.mono ?_
  rintro e w2 ⟨a2, c2, A2, C2, rfl, hx2, hm2⟩
  have HR : Hid (RunsRet w R (.returned (.tuple #[.slice a2 R.length c2, .bool true])) w2) := ⟨a2, c2, A2, C2, rfl, HX1.out.trans hx2, (hm2.mat (by decide)).mat⟩
  clear hx2 hm2 HC
  go_wp2
  go_ret2
  exact HR.out
set_option maxHeartbeats 400000 in
theorem cnt_any (b ab W H : Nat) (l : List Bool) (w : World) (hW : W ≤ 64) (hH : H ≤ 64) (hI : Img w b ab W H l) :
    Calls Try.prog 152 #[.pointer (some ⟨b, 0, none⟩)] w fun e w' => e = .returned (.int .i64 (spotsTo W l (H * W)).length) ∧ w.Ext w' := by
  have HS := Lib.hid (spots_any b ab W H l w hW hH hI)
  have hn : (spotsTo W l (H * W)).length ≤ 4096 := Nat.le_trans (spotsTo_len _ _ _) (Nat.mul_le_mul hH hW)
  clear hI
  generalize spotsTo W l (H * W) = ps at *
  go_enter Try.func152, Try.ntmps152
  go_wp2_with fail
  refine HS.out.mono ?_
  rintro e w1 ⟨a, c, rfl, hx, ho⟩
  clear ho
  go_wp2
  go_ret
  exact ⟨rfl, hx⟩
set_option maxHeartbeats 800000 in
theorem countBlack_any (a : Option Addr) (c : Nat) (ss : List ByteArray) (w : World) (hb : PicBnd ss) (hok : picOk ss = true) (hm : RowS w a ss) :
    Calls Try.prog 50 #[.agg #[.slice a ss.length c]] w fun e w' => e = .returned (.tuple #[.int .i64 (spotsTo (picW ss) (picL ss) (ss.length * picW ss)).length, .bool true]) ∧ w.Ext w' := by
  obtain ⟨W0, hW0⟩ : ∃ W0, W0 = w.alloc (.cells #[.slice a ss.length c] 26) := ⟨_, rfl⟩
  have hx0 : w.Ext W0 := by rw [hW0]; repeat (first | exact World.Ext.refl _ | exact ⟨_, rfl⟩ | assumption | refine World.Ext.over ?_ _ | refine World.Ext.drewN ?_ _ | refine World.Ext.drew ?_ | refine World.Ext.alloc ?_ _ | refine World.Ext.setCell ?_ (by simp) _)
  obtain ⟨v1, v2, v3, v4, v5, -⟩ := picOk_spec hok
  have HI := Lib.hid (imageOf_any a c ss W0 hb.1 hb.2 (RowOf.ext hm hx0) true hok)
  have HCN := Lib.hid (fun w' b ab (hI : Img w' b ab (picW ss) ss.length (picL ss)) => cnt_any b ab _ _ _ w' (by omega) (by omega) hI)
  have HX0 := Lib.hid hx0
  clear hb hok hm hx0 v1 v2 v3 v4 v5
  generalize (spotsTo (picW ss) (picL ss) (ss.length * picW ss)).length = n at *
  go_enter Try.func50, Try.ntmps50
  go_wp2_with fail
  rw [← hW0]
  clear hW0
  refine HI.out.mono ?_
  intro e w1 h
  obtain ⟨b, ab, rfl, hx1, hI, -, -⟩ : ∃ b ab, e = .returned (.tuple #[.pointer (some ⟨b, 0, none⟩), .bool true]) ∧ W0.Ext w1 ∧ Img w1 b ab (picW ss) ss.length (picL ss) ∧ W0.heap.size ≤ b ∧ W0.heap.size ≤ ab := h
  have HC := Lib.hid (HCN.out w1 b ab hI)
  have HX1 := Lib.hid (HX0.out.trans hx1)
  clear hx1 hI
  go_wp2_with fail
  refine HC.out.mono ?_
  rintro e w2 ⟨rfl, hx2⟩
  have HR := Lib.hid (HX1.out.trans hx2)
  clear hx2 HC
  go_wp2
  go_ret2
  exact ⟨rfl, HR.out⟩
theorem oneIf1_any (t : Bool) (w : World) : Calls Try.prog 125 #[.bool (!t)] w fun e w' => e = .returned (.int .i64 (whiteN t)) ∧ w.Ext w' := by
  cases t
  all_goals
    go_enter Try.func125, Try.ntmps125
    go_wp2
    go_ret
    exact ⟨rfl, .refl _⟩
theorem nb4 (x y : Int) : nbA false (x, y) = [(x + 0, y + -1), (x + -1, y + 0), (x + 1, y + 0), (x + 0, y + 1)] := rfl
def edgeS (W H : Nat) (L : List Bool) (s : Int × Int) : Nat := ((nbA false s).map fun q => whiteN (pxl W H L q.1 q.2)).sum
theorem sum_take {α : Type} (f : α → Nat) (d : α) {l : List α} {k : Nat} (h : k < l.length) : ((l.take (k + 1)).map f).sum = ((l.take k).map f).sum + f (l.getD k d) := by
  rw [List.take_succ_eq_append_getElem h, List.map_append, List.sum_append, List.getD_eq_getElem?_getD, List.getElem?_eq_getElem h]
  simp
theorem sum_le {α : Type} (f : α → Nat) (c : Nat) : ∀ l : List α, (∀ x, x ∈ l → f x ≤ c) → (l.map f).sum ≤ l.length * c
  | [], _ => by simp
  | x :: l, h => by
    have h1 := sum_le f c l (fun y hy => h y (List.mem_cons_of_mem _ hy))
    have h2 := h x (List.mem_cons_self ..)
    simp only [List.map_cons, List.sum_cons, List.length_cons]
    rw [Nat.succ_mul]
    omega
theorem whiteN_le (b : Bool) : whiteN b ≤ 1 := by cases b <;> decide
theorem edgeS_le (W H : Nat) (L : List Bool) (s : Int × Int) : edgeS W H L s ≤ 4 := by
  unfold edgeS
  have := sum_le (fun q : Int × Int => whiteN (pxl W H L q.1 q.2)) 1 (nbA false s) (fun q _ => whiteN_le _)
  rw [nbA_len] at this
  exact this
set_option maxRecDepth 5000 in
set_option maxHeartbeats 3200000 in
theorem edgeLength_any (a : Option Addr) (c : Nat) (ss : List ByteArray) (w : World) (hb : PicBnd ss) (hok : picOk ss = true) (hm : RowS w a ss) :
    Calls Try.prog 49 #[.agg #[.slice a ss.length c]] w fun e w' => e = .returned (.tuple #[.int .i64 (edgI (picW ss) ss.length (picL ss)), .bool true]) ∧ w.Ext w' := by
  obtain ⟨W0, hW0⟩ : ∃ W0, W0 = w.alloc (.cells #[.slice a ss.length c] 26) := ⟨_, rfl⟩
  have hx0 : w.Ext W0 := by rw [hW0]; repeat (first | exact World.Ext.refl _ | exact ⟨_, rfl⟩ | assumption | refine World.Ext.over ?_ _ | refine World.Ext.drewN ?_ _ | refine World.Ext.drew ?_ | refine World.Ext.alloc ?_ _ | refine World.Ext.setCell ?_ (by simp) _)
  obtain ⟨v1, v2, v3, v4, v5, -⟩ := picOk_spec hok
  have HI := Lib.hid (imageOf_any a c ss W0 hb.1 hb.2 (RowOf.ext hm hx0) true hok)
  have HSP : Hid (∀ w' b ab, Img w' b ab (picW ss) ss.length (picL ss) → Calls Try.prog 100 #[.pointer (some ⟨b, 0, none⟩)] w' (PairsRet w' (spotsTo (picW ss) (picL ss) (ss.length * picW ss)))) := fun w' b ab hI => spots_any b ab _ _ _ w' (by omega) (by omega) hI
  have HGT : Hid (∀ w' b ab (x y : Int), Img w' b ab (picW ss) ss.length (picL ss) → Calls Try.prog 102 #[.pointer (some ⟨b, 0, none⟩), .int .i64 x, .int .i64 y] w' fun e w'' => e = .returned (.bool (pxl (picW ss) ss.length (picL ss) x y)) ∧ w'.Ext w'') := fun w' b ab x y hI => get_any b ab _ _ _ x y w' (by omega) (by omega) hI _ rfl
  have HSB := Lib.hid (spotsTo_box (picW ss) ss.length (picL ss) (by omega) (by omega))
  have HSL : Hid ((spotsTo (picW ss) (picL ss) (ss.length * picW ss)).length ≤ 4096) := Nat.le_trans (spotsTo_len _ _ _) (Nat.mul_le_mul (show ss.length ≤ 64 by omega) (show picW ss ≤ 64 by omega))
  have HX0 := Lib.hid hx0
  clear hb hok hm hx0 v1 v2 v3 v4 v5
  obtain ⟨ps, hps⟩ : ∃ ps, ps = spotsTo (picW ss) (picL ss) (ss.length * picW ss) := ⟨_, rfl⟩
  rw [← hps] at HSB HSL
  obtain ⟨S, hS⟩ : ∃ S : Nat → Nat, S = fun k => ((ps.take k).map (edgeS (picW ss) ss.length (picL ss))).sum := ⟨_, rfl⟩
  have HS0 : Hid (S 0 = 0) := by show _ = _; rw [hS]; simp
  have HS1 : Hid (∀ k, k < ps.length → S (k + 1) = S k + edgeS (picW ss) ss.length (picL ss) (ps.getD k (0, 0))) := fun k hk => by rw [hS]; exact sum_take _ _ hk
  have HSN : Hid (S ps.length = edgI (picW ss) ss.length (picL ss)) := by show _ = _; rw [hS, hps]; dsimp only; rw [List.take_length]; rfl
  have HSM : Hid (∀ k, S k ≤ 16384) := fun k => by
    rw [hS]
    have h := sum_le (edgeS (picW ss) ss.length (picL ss)) 4 (ps.take k) (fun s _ => edgeS_le _ _ _ _)
    have h2 : (ps.take k).length ≤ 4096 := by rw [List.length_take]; have := HSL.out; omega
    show (List.map _ _).sum ≤ _
    omega
  rw [← hps] at HSP
  have HQ : Hid (∀ s : Int × Int, ∃ T : Nat → Nat, T 0 = 0 ∧ (∀ j, j < 4 → T (j + 1) = T j + whiteN (pxl (picW ss) ss.length (picL ss) ((nbA false s).getD j (0, 0)).1 ((nbA false s).getD j (0, 0)).2)) ∧ T 4 = edgeS (picW ss) ss.length (picL ss) s ∧ ∀ j, T j ≤ 4) := fun s =>
    ⟨fun j => (((nbA false s).take j).map fun q => whiteN (pxl (picW ss) ss.length (picL ss) q.1 q.2)).sum, by simp, fun j hj => sum_take (fun q : Int × Int => whiteN (pxl (picW ss) ss.length (picL ss) q.1 q.2)) (0, 0) (by rw [nbA_len]; exact hj), by dsimp only; rw [List.take_of_length_le (by rw [nbA_len]; decide)]; rfl, fun j => by
      have h := sum_le (fun q : Int × Int => whiteN (pxl (picW ss) ss.length (picL ss) q.1 q.2)) 1 ((nbA false s).take j) (fun q _ => whiteN_le _)
      have h2 : ((nbA false s).take j).length ≤ 4 := by rw [List.length_take, nbA_len]; exact Nat.min_le_right _ _
      show (List.map _ _).sum ≤ 4
      omega⟩
  clear hS hps
  rw [← HSN.out]
  clear HSN
  go_enter Try.func49, Try.ntmps49
  go_wp2_with fail
  rw [← hW0]
  clear hW0
  refine HI.out.mono ?_
  intro e w1 h
  obtain ⟨b, ab, rfl, hx1, hI, -, -⟩ : ∃ b ab, e = .returned (.tuple #[.pointer (some ⟨b, 0, none⟩), .bool true]) ∧ W0.Ext w1 ∧ Img w1 b ab (picW ss) ss.length (picL ss) ∧ W0.heap.size ≤ b ∧ W0.heap.size ≤ ab := h
  have HC := Lib.hid (HSP.out w1 b ab hI)
  have HX1 := Lib.hid (HX0.out.trans hx1)
  have HI1 := Lib.hid hI
  clear hx1 hI HI HSP
  go_wp2_with fail
  refine HC.out.mono ?_
  rintro e w2 ⟨asp, csp, rfl, hx2, ho2⟩
  have HG2 : Hid (∀ w' (x y : Int), w2.Ext w' → Calls Try.prog 102 #[.pointer (some ⟨b, 0, none⟩), .int .i64 x, .int .i64 y] w' fun e w'' => e = .returned (.bool (pxl (picW ss) ss.length (picL ss) x y)) ∧ w'.Ext w'') := fun w' x y hx => HGT.out w' b ab x y (HI1.out.ext (hx2.trans hx))
  have HR2 := Lib.hid ho2.row
  have HX2 := Lib.hid (HX1.out.trans hx2)
  clear hx2 ho2 HC HI1 HGT HX1
  generalize pxl (picW ss) ss.length (picL ss) = px at *
  generalize edgeS (picW ss) ss.length (picL ss) = es at *
  have hpl : ps.length ≤ 4096 := HSL.out
  go_wp2
  go_loopw [6, 8, 10, 21] (fun t _ _ i wr => ∃ k : Nat, k ≤ ps.length ∧ i = .int .i64 k ∧ t = .int .i64 (S k) ∧ Hid (w2.Ext wr)) (fun _ _ _ i _ => ps.length - (intOf i).toNat)
  case atStart => exact ⟨0, Nat.zero_le _, rfl, by rw [HS0.out]; rfl, .refl _⟩
  case round =>
    obtain ⟨k, hk, rfl, rfl, HX⟩ := hrel
    obtain ⟨wo, rfl⟩ : ∃ wo : World, wo = wr := ⟨_, rfl⟩
    have hk0 : (0 : Int) ≤ (k : Int) := by omega
    by_cases hlt : k < ps.length
    · have hlt' : (k : Int) < (ps.length : Int) := by omega
      obtain ⟨b1, o1, rfl, hc0, hc1⟩ := (HR2.out.ext HX.out).at hlt
      have hbx := HSB.out k hlt
      have HSK := Lib.hid (HS1.out k hlt)
      have hSm := HSM.out k
      obtain ⟨T, hT0, hT1, hT4, hTm⟩ := HQ.out (ps.getD k (0, 0))
      obtain ⟨⟨x, y⟩, hs⟩ : ∃ s, ps.getD k (0, 0) = s := ⟨_, rfl⟩
      rw [hs] at hc0 hc1 hbx hT1 hT4 HSK
      obtain ⟨x0, x1, y0, y1⟩ := hbx
      dsimp only at hc0 hc1 x0 x1 y0 y1
      have HT0 := Lib.hid hT0
      have HT1 := Lib.hid hT1
      have HT4 := Lib.hid hT4
      have HTM := Lib.hid hTm
      clear hT0 hT1 hT4 hTm hs
      obtain ⟨w3, hw3⟩ : ∃ w3, w3 = wo.alloc (.cells #[.int .i64 x, .int .i64 y] 90) := ⟨_, rfl⟩
      have hx3 : wo.Ext w3 := by rw [hw3]; repeat (first | exact World.Ext.refl _ | exact ⟨_, rfl⟩ | assumption | refine World.Ext.over ?_ _ | refine World.Ext.drewN ?_ _ | refine World.Ext.drew ?_ | refine World.Ext.alloc ?_ _ | refine World.Ext.setCell ?_ (by simp) _)
      have HC := Lib.hid (around_any x y false w3 (by omega) (by omega))
      have HX3 := Lib.hid (HX.out.trans hx3)
      clear hx3
      go_wp2_with fail
      rw [← hw3]
      clear hw3 hc0 hc1
      refine HC.out.mono ?_
      rintro e w4 ⟨aq, cq, rfl, hx4, ho4⟩
      have HX4 := Lib.hid (HX3.out.trans hx4)
      have HR4 := Lib.hid ho4.row
      have hql : (nbA false (x, y)).length = 4 := rfl
      have HQB : Hid (∀ j, j < 4 → -2 ≤ ((nbA false (x, y)).getD j (0, 0)).1 ∧ ((nbA false (x, y)).getD j (0, 0)).1 ≤ 50 ∧ -2 ≤ ((nbA false (x, y)).getD j (0, 0)).2 ∧ ((nbA false (x, y)).getD j (0, 0)).2 ≤ 50) := fun j hj => by
        have hm : (nbA false (x, y)).getD j (0, 0) ∈ nbA false (x, y) := by rw [List.getD_eq_getElem?_getD, List.getElem?_eq_getElem (by rw [hql]; exact hj)]; exact List.getElem_mem _
        have := nbA_near hm
        dsimp only at this
        omega
      clear hx4 ho4 HC HX3 HX
      generalize nbA false (x, y) = qs at *
      rw [hql]
      go_wp2
      go_loopw [6, 10, 31] (fun t _ i wr => ∃ j : Nat, j ≤ 4 ∧ i = .int .i64 j ∧ t = .int .i64 ((S k + T j : Nat) : Int) ∧ Hid (w4.Ext wr)) (fun _ _ i _ => 4 - (intOf i).toNat)
      case atStart => exact ⟨0, by omega, rfl, by rw [HT0.out]; rfl, .refl _⟩
      case round =>
        obtain ⟨j, hj, rfl, rfl, HY⟩ := hrel
        obtain ⟨wi, rfl⟩ : ∃ wi : World, wi = wr := ⟨_, rfl⟩
        have hj0 : (0 : Int) ≤ (j : Int) := by omega
        by_cases hltj : j < 4
        · have hltj' : (j : Int) < 4 := by omega
          obtain ⟨b5, o5, rfl, hd0, hd1⟩ := (HR4.out.ext HY.out).at (show j < qs.length by rw [hql]; exact hltj)
          have HTJ := Lib.hid (HT1.out j hltj)
          obtain ⟨m1, m2, m3, m4⟩ := HQB.out j hltj
          have hTm := HTM.out j
          generalize qs.getD j (0, 0) = q at *
          obtain ⟨u, v⟩ := q
          dsimp only at hd0 hd1 m1 m2 m3 m4 HTJ
          obtain ⟨w5, hw5⟩ : ∃ w5, w5 = wi.alloc (.cells #[.int .i64 u, .int .i64 v] 90) := ⟨_, rfl⟩
          have hx5 : wi.Ext w5 := by rw [hw5]; repeat (first | exact World.Ext.refl _ | exact ⟨_, rfl⟩ | assumption | refine World.Ext.over ?_ _ | refine World.Ext.drewN ?_ _ | refine World.Ext.drew ?_ | refine World.Ext.alloc ?_ _ | refine World.Ext.setCell ?_ (by simp) _)
          have HX5 := Lib.hid (HY.out.trans hx5)
          have HC5 := Lib.hid (HG2.out w5 u v (HX4.out.trans HX5.out))
          clear hx5
          go_wp2_with fail
          rw [← hw5]
          clear hw5 hd0 hd1
          refine HC5.out.mono ?_
          rintro e w6 ⟨rfl, hx6⟩
          have HX6 := Lib.hid (HX5.out.trans hx6)
          clear hx6 HC5 HX5 HY
          go_wp2_with fail
          refine (oneIf1_any (px u v) w6).mono ?_
          rintro e w7 ⟨rfl, hx7⟩
          have HX7 := Lib.hid (HX6.out.trans hx7)
          have hwl := whiteN_le (px u v)
          clear hx7 HX6
          generalize whiteN (px u v) = wn at *
          go_wp2
          go_roundw
          case rel => exact ⟨j + 1, by omega, by go_num, by rw [HTJ.out]; go_num, HX7⟩
          case measure => simp [intOf]; omega
        · have hj4 : j = 4 := by omega
          subst hj4
          have HX7 := Lib.hid (HX4.out.trans HY.out)
          clear HY
          go_wp2
          go_roundw
          case rel => exact ⟨k + 1, by omega, by go_num, by rw [HSK.out, HT4.out], HX7⟩
          case measure => simp [intOf]; omega
    · have hkk : k = ps.length := by omega
      subst hkk
      have HX3 := Lib.hid (HX2.out.trans HX.out)
      clear HX
      go_wp2
      go_ret2
      exact ⟨rfl, HX3.out⟩
end Go.Proofs.Ytpdmfnndegcjjaa
