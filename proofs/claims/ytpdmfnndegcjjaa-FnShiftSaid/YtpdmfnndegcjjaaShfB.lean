/- FnShift: the program's best shift. -/
import Derived.Test.YtpdmfnndegcjjaaShfF
namespace Go.Proofs.Ytpdmfnndegcjjaa
open Go Go.RowKit
theorem cntT_next {bs : List UInt8} {k : Nat} (h : k < bs.length) : cntT (bs.take (k + 1)) = cntT (bs.take k) + b2n (bs.getD k 0 == 35 || bs.getD k 0 == 46) := by
  rw [List.take_succ_eq_append_getElem h, cntT_app, List.getD_eq_getElem?_getD, List.getElem?_eq_getElem h, Option.getD_some]
  congr 1
  unfold cntT b2n
  cases hb : (bs[k] == 35 || bs[k] == 46)
  · rw [List.filter_cons_of_neg (by rw [hb]; decide)]; rfl
  · rw [List.filter_cons_of_pos (by rw [hb])]; rfl
theorem cntT_le (bs : List UInt8) : cntT bs ≤ bs.length := List.length_filter_le _ _
def BsAt (w : World) (v : Value) (u1 u2 n : Int) : Prop := ∃ q, v = .slice (some ⟨q, 0, none⟩) 3 3 ∧ w.cell? ⟨q, 0, none⟩ = some (.int .i64 u1) ∧ w.cell? ⟨q, 1, none⟩ = some (.int .i64 u2) ∧ w.cell? ⟨q, 2, none⟩ = some (.int .i64 n)
theorem BsAt.ext {w w' : World} {v : Value} {u1 u2 n : Int} (h : BsAt w v u1 u2 n) (hx : w.Ext w') : BsAt w' v u1 u2 n := by
  obtain ⟨q, h1, h2, h3, h4⟩ := h
  exact ⟨q, h1, hx.cell h2, hx.cell h3, hx.cell h4⟩
theorem BsAt.new (w : World) (u1 u2 n : Int) (e : TypeId) : BsAt (w.alloc (.cells #[.int .i64 u1, .int .i64 u2, .int .i64 n] e)) (.slice (some ⟨w.heap.size, 0, none⟩) 3 3) u1 u2 n :=
  ⟨_, rfl, by simp [go_sem], by simp [go_sem], by simp [go_sem]⟩
def BsSt (N : Nat → Nat → Nat) (A dy dx : Nat) (v : Value) (w : World) : Prop := ∃ u1 u2 n, BsAt w v u1 u2 n ∧ BestTo N A dy dx u1 u2 n
theorem BsSt.ext {N : Nat → Nat → Nat} {A dy dx : Nat} {v : Value} {w w' : World} (h : BsSt N A dy dx v w) (hx : w.Ext w') : BsSt N A dy dx v w' := by
  obtain ⟨u1, u2, n, h1, h2⟩ := h
  exact ⟨u1, u2, n, h1.ext hx, h2⟩
def ShRet (N : Nat → Nat → Nat) (A B : Nat) (w : World) (e : Ending) (w' : World) : Prop := ∃ x y : Nat, BestOf N A B x y ∧ e = .returned (.tuple #[.int .i64 x, .int .i64 y, .int .i64 (N x y : Nat), .bool true]) ∧ w.Ext w'
theorem bestShift1_any (p8 p12 p11 b ab W H dx dy : Nat) (l : List Bool) (x y : Nat) (w : World) (hW : W ≤ 64) (hH : H ≤ 64) (hdx : dx ≤ 8) (hdy : dy ≤ 8) (hx8 : x < 8) (hy8 : y < 8) (h8 : w.cell? ⟨p8, 0, none⟩ = some (.pointer (some ⟨b, 0, none⟩))) (h12 : w.cell? ⟨p12, 0, none⟩ = some (.int .i64 dx)) (h11 : w.cell? ⟨p11, 0, none⟩ = some (.int .i64 dy)) (hI : Img w b ab W H l) :
    Calls Try.prog 154 #[.int .i64 x, .int .i64 y, .pointer (some ⟨p8, 0, none⟩), .pointer (some ⟨p12, 0, none⟩), .pointer (some ⟨p11, 0, none⟩)] w fun e w' => e = .returned (.bool (shF W H l dx dy x y)) ∧ w.Ext w' := by
  have HG := Lib.hid (get_any b ab W H l ((x : Int) - dx) ((y : Int) - dy) w hW hH hI _ rfl)
  have l8 := World.block_lt_of_cell? _ _ h8
  have l12 := World.block_lt_of_cell? _ _ h12
  have l11 := World.block_lt_of_cell? _ _ h11
  show Calls _ _ _ _ fun e w' => e = .returned (.bool (pxl W H l ((x : Int) - dx) ((y : Int) - dy))) ∧ w.Ext w'
  clear hI
  generalize pxl W H l ((x : Int) - dx) ((y : Int) - dy) = t at *
  go_enter Try.func154, Try.ntmps154
  go_wp2_with fail
  refine HG.out.mono ?_
  rintro e w1 ⟨rfl, hx1⟩
  clear h8 h12 h11 l8 l12 l11
  go_wp2
  go_ret
  exact ⟨rfl, hx1⟩
theorem enters_bestShift1 : Enters 154 := enters_of Try.func154 (by kernel_rfl) (by kernel_rfl)
set_option maxRecDepth 5000 in
set_option maxHeartbeats 3200000 in
theorem bestShift_any (a : Option Addr) (c : Nat) (ss : List ByteArray) (w : World) (hok : picOk ss = true) (hW8 : picW ss ≤ 8) (hH8 : ss.length ≤ 8) (hm : RowS w a ss) :
    Calls Try.prog 53 #[.agg #[.slice a ss.length c], .int .i64 8] w (ShRet (shN (picW ss) ss.length (picL ss)) (9 - picW ss) (9 - ss.length) w) := by
  obtain ⟨W0, hW0⟩ : ∃ W0, W0 = w.alloc (.cells #[.slice a ss.length c] 26) := ⟨_, rfl⟩
  have hx0 : w.Ext W0 := by rw [hW0]; repeat (first | exact World.Ext.refl _ | exact ⟨_, rfl⟩ | assumption | refine World.Ext.over ?_ _ | refine World.Ext.drewN ?_ _ | refine World.Ext.drew ?_ | refine World.Ext.alloc ?_ _ | refine World.Ext.setCell ?_ (by simp) _)
  obtain ⟨v1, v2, v3, v4, v5, -⟩ := picOk_spec hok
  have HI := Lib.hid (imageOf_any a c ss W0 (by omega) (fun y => by
    by_cases hy : y < ss.length
    · rw [v5.2 y hy]; omega
    · rw [List.getD_eq_getElem?_getD, List.getElem?_eq_none (by omega)]; simp) (RowOf.ext hm hx0) true hok)
  unfold ImgOf at HI
  have HX0 := Lib.hid hx0
  clear hok hm hx0 v5
  generalize picW ss = W at *
  generalize picL ss = L at *
  generalize ss.length = H at *
  have HSD : Hid (∀ w', Calls Try.prog 153 #[.int .i64 8] w' fun e w'' => e = .returned (.bool true) ∧ w'.Ext w'') := fun w' => sideOk_any 8 w'
  have hw1 : ¬ (8 : Int) < (W : Int) := by omega
  have hh1 : ¬ (8 : Int) < (H : Int) := by omega
  have HMD : Hid (∀ (w' : World) (p8 p11 p12 b ab dx dy : Nat), dx ≤ 8 → dy ≤ 8 → w'.cell? ⟨p8, 0, none⟩ = some (.pointer (some ⟨b, 0, none⟩)) → w'.cell? ⟨p12, 0, none⟩ = some (.int .i64 dx) → w'.cell? ⟨p11, 0, none⟩ = some (.int .i64 dy) → Img w' b ab W H L →
      Calls Try.prog 103 #[.int .i64 8, .int .i64 8, .func (.func 154) #[] #[.pointer (some ⟨p8, 0, none⟩), .pointer (some ⟨p12, 0, none⟩), .pointer (some ⟨p11, 0, none⟩)]] w' (ImgRet w' 8 8 (mkl 8 8 (shF W H L dx dy)))) := fun w' p8 p11 p12 b ab dx dy h1 h2 c8 c12 c11 hI =>
    made_any 8 8 _ _ _ w' (by omega) (by omega) enters_bestShift1 fun w'' hx x y h3 h4 => bestShift1_any p8 p12 p11 b ab W H dx dy L x y w'' (by omega) (by omega) h1 h2 h3 h4 (hx.cell c8) (hx.cell c12) (hx.cell c11) (hI.ext hx)
  have HTT : Hid (∀ (w' : World) (b ab dx dy : Nat), Img w' b ab 8 8 (mkl 8 8 (shF W H L dx dy)) → Calls Try.prog 155 #[.pointer (some ⟨b, 0, none⟩), .agg #[.int .i64 0, .int .i64 0, .int .i64 8]] w' fun e w'' => e = .returned (.string (txB (qtext (shF W H L dx dy) 3 0 0))) ∧ w'.Ext w'') := fun w' b ab dx dy hI => by
    have h := treeText_any b ab 8 _ (by decide) 3 0 0 8 0 0 w' (by decide) rfl rfl rfl (by decide) (by decide) hI
    rw [qtext_congr (f := lF 8 (mkl 8 8 (shF W H L dx dy))) 3 0 0 (g := shF W H L dx dy) fun i j _ hi _ hj => mkl_at 8 8 _ i j (by omega) (by omega)] at h
    exact h
  have HTN : Hid (∀ dx dy, cntT (qtext (shF W H L dx dy) 3 0 0) = shN W H L dx dy) := fun dx dy => (lcN_cnt _ 3 0 0).symm
  have HTL : Hid (∀ dx dy, (qtext (shF W H L dx dy) 3 0 0).length ≤ 426) := fun dx dy => Nat.le_trans (qtext_le _ _ _ _) (Lq_4 (by omega))
  have HON := Lib.hid oneIf_any
  generalize shN W H L = N at *
  have HQ : Hid (∀ dx dy, ∃ bs : List UInt8, Hid (qtext (shF W H L dx dy) 3 0 0 = bs) ∧ Hid (cntT bs = N dx dy) ∧ bs.length ≤ 426) := fun dx dy => ⟨_, Lib.hid rfl, HTN.out dx dy, HTL.out dx dy⟩
  clear HTN HTL
  go_enter Try.func53, Try.ntmps53
  go_wp2_with fail
  rw [← hW0]
  clear hW0
  refine HI.out.mono ?_
  intro e w1 h
  rw [if_pos trivial] at h
  obtain ⟨b, ab, rfl, hx1, hI, -, -⟩ := h
  obtain ⟨w2, hw2⟩ : ∃ w2, w2 = w1.alloc (.cells #[.pointer (some ⟨b, 0, none⟩)] 121) := ⟨_, rfl⟩
  have hx2 : w1.Ext w2 := by rw [hw2]; repeat (first | exact World.Ext.refl _ | exact ⟨_, rfl⟩ | assumption | refine World.Ext.over ?_ _ | refine World.Ext.drewN ?_ _ | refine World.Ext.drew ?_ | refine World.Ext.alloc ?_ _ | refine World.Ext.setCell ?_ (by simp) _)
  have c8 : w2.cell? ⟨w1.heap.size, 0, none⟩ = some (.pointer (some ⟨b, 0, none⟩)) := by rw [hw2]; simp [go_sem]
  have HI2 := Lib.hid (hI.ext hx2)
  have HX2 := Lib.hid (HX0.out.trans (hx1.trans hx2))
  clear hx1 hx2 hI HI HX0
  go_upto_region 2 with fail
  rw [← hw2]
  clear hw2
  generalize w1.heap.size = p8 at *
  have l8 := World.block_lt_of_cell? _ _ c8
  go_wp2_with fail
  refine (HSD.out w2).mono ?_
  rintro e w3 ⟨rfl, hx3⟩
  have HI3 := Lib.hid (HI2.out.ext hx3)
  have HX3 := Lib.hid (HX2.out.trans hx3)
  replace c8 := hx3.cell c8
  have i0 := HI3.out.c0
  have i1 := HI3.out.c1
  clear l8 hx3 HI2 HX2 HSD
  have l8 := World.block_lt_of_cell? _ _ c8
  have lb := World.block_lt_of_cell? _ _ i0
  have HC8 := Lib.hid (fun w' (hx : w3.Ext w') => hx.cell c8)
  have HI0 := Lib.hid (fun w' (hx : w3.Ext w') => hx.cell i0)
  have HI1 := Lib.hid (fun w' (hx : w3.Ext w') => hx.cell i1)
  have HB0 : Hid (BsSt N (9 - W) 0 0 (.slice (some ⟨w3.heap.size, 0, none⟩) 3 3) (w3.alloc (.cells #[.int .i64 0, .int .i64 0, .int .i64 (-1)] 2))) := ⟨_, _, _, BsAt.new _ _ _ _ _, BestTo.start _ _⟩
  have HE0 : Hid (w3.Ext (w3.alloc (.cells #[.int .i64 0, .int .i64 0, .int .i64 (-1)] 2))) := by show World.Ext _ _; repeat (first | exact World.Ext.refl _ | exact ⟨_, rfl⟩ | assumption | refine World.Ext.over ?_ _ | refine World.Ext.drewN ?_ _ | refine World.Ext.drew ?_ | refine World.Ext.alloc ?_ _ | refine World.Ext.setCell ?_ (by simp) _)
  go_wp2
  clear c8 l8 i0 i1 lb
  go_loopw [10, 11, 12, 13, 14, 15, 52] (fun v _ _ _ _ _ d wr => ∃ dy : Nat, dy ≤ 9 - H ∧ d = .int .i64 dy ∧ Hid (w3.Ext wr) ∧ Hid (BsSt N (9 - W) dy 0 v wr)) (fun _ _ _ _ _ _ d _ => 9 - H - (intOf d).toNat)
  case atStart => exact ⟨0, Nat.zero_le _, rfl, HE0, HB0⟩
  case round =>
    clear HE0 HB0
    obtain ⟨dy, hdy, rfl, HX, HS⟩ := hrel
    obtain ⟨wo, rfl⟩ : ∃ wo : World, wo = wr := ⟨_, rfl⟩
    obtain ⟨vo, rfl⟩ : ∃ vo : Value, vo = u10 := ⟨_, rfl⟩
    have hdy0 : (0 : Int) ≤ (dy : Int) := by omega
    by_cases hlt : dy < 9 - H
    · have hlt' : (dy : Int) < 8 - (H : Int) + 1 := by omega
      obtain ⟨w4, hw4⟩ : ∃ w4, w4 = wo.alloc (.cells #[.int .i64 dy] 2) := ⟨_, rfl⟩
      have hx4 : wo.Ext w4 := by rw [hw4]; repeat (first | exact World.Ext.refl _ | exact ⟨_, rfl⟩ | assumption | refine World.Ext.over ?_ _ | refine World.Ext.drewN ?_ _ | refine World.Ext.drew ?_ | refine World.Ext.alloc ?_ _ | refine World.Ext.setCell ?_ (by simp) _)
      have c11 : w4.cell? ⟨wo.heap.size, 0, none⟩ = some (.int .i64 dy) := by rw [hw4]; simp [go_sem]
      have HX4 := Lib.hid (HX.out.trans hx4)
      have HS4 := Lib.hid (HS.out.ext hx4)
      have HC11 := Lib.hid (fun w' (hx : w4.Ext w') => hx.cell c11)
      clear hx4 HX HS c11
      go_upto_region 8 with fail
      rw [← hw4]
      clear hw4
      generalize wo.heap.size = p11 at *
      have c8 := HC8.out w4 HX4.out
      have l8 := World.block_lt_of_cell? _ _ c8
      have i0 := HI0.out w4 HX4.out
      go_wp2
      clear c8 l8 i0
      go_loopw [10, 12, 13, 14, 15, 62] (fun v _ _ _ _ d wr => ∃ dx : Nat, dx ≤ 9 - W ∧ d = .int .i64 dx ∧ Hid (w4.Ext wr) ∧ Hid (BsSt N (9 - W) dy dx v wr)) (fun _ _ _ _ _ d _ => 9 - W - (intOf d).toNat)
      case atStart => exact ⟨0, Nat.zero_le _, rfl, .refl _, HS4⟩
      case round =>
        clear HS4
        obtain ⟨dx, hdx, rfl, HX, HS⟩ := hrel
        obtain ⟨wi, rfl⟩ : ∃ wi : World, wi = wr := ⟨_, rfl⟩
        obtain ⟨vi, rfl⟩ : ∃ vi : Value, vi = u10 := ⟨_, rfl⟩
        have hdx0 : (0 : Int) ≤ (dx : Int) := by omega
        by_cases hltx : dx < 9 - W
        · have hltx' : (dx : Int) < 8 - (W : Int) + 1 := by omega
          obtain ⟨w5, hw5⟩ : ∃ w5, w5 = wi.alloc (.cells #[.int .i64 dx] 2) := ⟨_, rfl⟩
          have hx5 : wi.Ext w5 := by rw [hw5]; repeat (first | exact World.Ext.refl _ | exact ⟨_, rfl⟩ | assumption | refine World.Ext.over ?_ _ | refine World.Ext.drewN ?_ _ | refine World.Ext.drew ?_ | refine World.Ext.alloc ?_ _ | refine World.Ext.setCell ?_ (by simp) _)
          have c12 : w5.cell? ⟨wi.heap.size, 0, none⟩ = some (.int .i64 dx) := by rw [hw5]; simp [go_sem]
          have HX5 := Lib.hid (HX.out.trans hx5)
          have HS5 := Lib.hid (HS.out.ext hx5)
          have HC12 := Lib.hid (fun w' (hx : w5.Ext w') => hx.cell c12)
          clear hx5 HX HS c12
          go_upto_region 11 with fail
          rw [← hw5]
          clear hw5
          generalize wi.heap.size = p12 at *
          have HC := Lib.hid (HMD.out w5 p8 p11 p12 b ab dx dy (by omega) (by omega) (HC8.out w5 (HX4.out.trans HX5.out)) (HC12.out w5 (.refl _)) (HC11.out w5 HX5.out) (HI3.out.ext (HX4.out.trans HX5.out)))
          go_wp2_with fail
          refine HC.out.mono ?_
          rintro e w6 ⟨b6, ab6, rfl, hx6, hi6, -, -⟩
          have HC2 := Lib.hid (HTT.out w6 b6 ab6 dx dy hi6)
          have HX6 := Lib.hid hx6
          clear hx6 hi6 HC
          go_wp2_with fail
          refine HC2.out.mono ?_
          rintro e w7 ⟨rfl, hx7⟩
          obtain ⟨bs, HBS, HCN, hbl⟩ := HQ.out dx dy
          rw [HBS.out]
          have HX7 := Lib.hid (HX6.out.trans hx7)
          have HSZ : Hid ((txB bs).size = bs.length) := txB_size bs
          have HDT : Hid ((txB bs).data.toList = bs) := rfl
          have HC0 : Hid (cntT (bs.take 0) = 0) := by show _ = _; simp [cntT]
          have HCA : Hid (cntT (bs.take bs.length) = N dx dy) := by show _ = _; rw [List.take_length]; exact HCN.out
          have HCX : Hid (∀ k, k < bs.length → cntT (bs.take (k + 1)) = cntT (bs.take k) + b2n (bs.getD k 0 == 35 || bs.getD k 0 == 46)) := fun k hk => cntT_next hk
          have HCL : Hid (∀ k, cntT (bs.take k) ≤ 426) := fun k => Nat.le_trans (cntT_le _) (by rw [List.length_take]; omega)
          clear hx7 HBS HCN HX6 HC2
          generalize txB bs = tx at *
          have hszl : tx.size ≤ 426 := by rw [HSZ.out]; exact hbl
          obtain ⟨K, hK⟩ : ∃ K : Nat → Nat, K = fun k => cntT (bs.take k) := ⟨_, rfl⟩
          have HK0 : Hid (K 0 = 0) := by rw [hK]; exact HC0.out
          have HKA : Hid (K tx.size = N dx dy) := by rw [hK, HSZ.out]; exact HCA.out
          have HKX : Hid (∀ k, k < tx.size → K (k + 1) = K k + b2n (tx.data.toList.getD k 0 == 35 || tx.data.toList.getD k 0 == 46)) := by rw [hK, HDT.out, HSZ.out]; exact HCX.out
          have HKL : Hid (∀ k, K k ≤ 426) := by rw [hK]; exact HCL.out
          clear hK HC0 HCA HCX HCL HDT HSZ hbl
          go_wp2
          go_loopw [14, 15, 74] (fun t _ i wr => ∃ k : Nat, k ≤ tx.size ∧ i = .int .i64 k ∧ t = .int .i64 (K k : Nat) ∧ Hid (w7.Ext wr)) (fun _ _ i _ => tx.size - (intOf i).toNat)
          case atStart => exact ⟨0, Nat.zero_le _, rfl, by rw [HK0.out]; rfl, .refl _⟩
          case round =>
            obtain ⟨k, hk, rfl, rfl, HX⟩ := hrel
            obtain ⟨wk, rfl⟩ : ∃ wk : World, wk = wr := ⟨_, rfl⟩
            have hk0 : (0 : Int) ≤ (k : Int) := by omega
            by_cases hltk : k < tx.size
            · have hltk' : (k : Int) < (tx.size : Int) := by omega
              have h35 := byte_eq tx k hltk 35
              have h46 := byte_eq tx k hltk 46
              have h35 : (((tx[k]'hltk).toNat : Int) == 35) = (tx.data.toList.getD k 0 == 35) := h35
              have h46 : (((tx[k]'hltk).toNat : Int) == 46) = (tx.data.toList.getD k 0 == 46) := h46
              have HKN := Lib.hid (HKX.out k hltk)
              have hkl := HKL.out k
              generalize (tx.data.toList.getD k 0 == 35) = t1 at *
              generalize (tx.data.toList.getD k 0 == 46) = t2 at *
              have HO := Lib.hid (HON.out (t1 || t2) wk)
              have hub : b2n (t1 || t2) ≤ 1 := by unfold b2n; split <;> omega
              obtain ⟨u, hu⟩ : ∃ u, u = b2n (t1 || t2) := ⟨_, rfl⟩
              rw [← hu] at HO HKN hub
              clear hu
              cases t1 <;> cases t2
              all_goals
                go_wp2_with fail
                refine HO.out.mono ?_
                rintro e w8 ⟨rfl, hx8⟩
                have HX8 := Lib.hid (HX.out.trans hx8)
                clear hx8 h35 h46 HX HO
                go_wp2
                go_roundw
                case rel => exact ⟨k + 1, by omega, by go_num, by rw [HKN.out]; go_num, HX8⟩
                case measure => simp [intOf]; omega
            · have hke : k = tx.size := by omega
              subst hke
              have hke' : ¬ (tx.size : Int) < (tx.size : Int) := by omega
              rw [HKA.out]
              have HX8 := Lib.hid (HX5.out.trans (HX7.out.trans HX.out))
              obtain ⟨u1, u2, n, ⟨q, rfl, q0, q1, q2⟩, hbt⟩ := HS5.out.ext (HX7.out.trans HX.out)
              have c12 := HC12.out wk (HX7.out.trans HX.out)
              have c11 := HC11.out wk HX8.out
              have l12 := World.block_lt_of_cell? _ _ c12
              have l11 := World.block_lt_of_cell? _ _ c11
              clear HX7 HX HS5
              by_cases hn0 : n < 0
              · have HN : Hid (BsSt N (9 - W) dy (dx + 1) (.slice (some ⟨wk.heap.size, 0, none⟩) 3 3) (wk.alloc (.cells #[.int .i64 dx, .int .i64 dy, .int .i64 (N dx dy : Nat)] 2))) := ⟨_, _, _, BsAt.new _ _ _ _ _, hbt.new hltx (.inl hn0)⟩
                have HXN : Hid (w4.Ext (wk.alloc (.cells #[.int .i64 dx, .int .i64 dy, .int .i64 (N dx dy : Nat)] 2))) := HX8.out.alloc _
                clear hbt HX8
                go_wp2
                go_roundw
                case rel => exact ⟨dx + 1, by omega, by go_num, HXN, HN⟩
                case measure => simp [intOf]; omega
              · by_cases hn1 : (N dx dy : Int) < n
                · have HN : Hid (BsSt N (9 - W) dy (dx + 1) (.slice (some ⟨wk.heap.size, 0, none⟩) 3 3) (wk.alloc (.cells #[.int .i64 dx, .int .i64 dy, .int .i64 (N dx dy : Nat)] 2))) := ⟨_, _, _, BsAt.new _ _ _ _ _, hbt.new hltx (.inr hn1)⟩
                  have HXN : Hid (w4.Ext (wk.alloc (.cells #[.int .i64 dx, .int .i64 dy, .int .i64 (N dx dy : Nat)] 2))) := HX8.out.alloc _
                  clear hbt HX8
                  go_wp2
                  go_roundw
                  case rel => exact ⟨dx + 1, by omega, by go_num, HXN, HN⟩
                  case measure => simp [intOf]; omega
                · have HN : Hid (BsSt N (9 - W) dy (dx + 1) (.slice (some ⟨q, 0, none⟩) 3 3) wk) := ⟨_, _, _, ⟨q, rfl, q0, q1, q2⟩, hbt.old hltx hn0 hn1⟩
                  clear hbt
                  go_wp2
                  go_roundw
                  case rel => exact ⟨dx + 1, by omega, by go_num, HX8, HN⟩
                  case measure => simp [intOf]; omega
        · have hdxe : dx = 9 - W := by omega
          have hltx' : ¬ (dx : Int) < 8 - (W : Int) + 1 := by omega
          have HN : Hid (BsSt N (9 - W) (dy + 1) 0 vi wi) := by
            obtain ⟨u1, u2, n, h1, h2⟩ := HS.out
            rw [hdxe] at h2
            exact ⟨u1, u2, n, h1, h2.row (by omega)⟩
          have HXN := Lib.hid (HX4.out.trans HX.out)
          clear HS HX
          go_wp2
          go_roundw
          case rel => exact ⟨dy + 1, by omega, by go_num, HXN, HN⟩
          case measure => simp [intOf]; omega
    · have hdye : dy = 9 - H := by omega
      have hlt' : ¬ (dy : Int) < 8 - (H : Int) + 1 := by omega
      obtain ⟨u1, u2, n, ⟨q, rfl, q0, q1, q2⟩, hbt⟩ := HS.out
      rw [hdye] at hbt
      obtain ⟨x, y, rfl, rfl, rfl, hb⟩ := hbt.all (by omega)
      have HR : Hid (∀ w', wo.Ext w' → ShRet N (9 - W) (9 - H) w (.returned (.tuple #[.int .i64 x, .int .i64 y, .int .i64 (N x y : Nat), .bool true])) w') := fun w' hx => ⟨x, y, hb, rfl, HX3.out.trans (HX.out.trans hx)⟩
      clear hbt hb HS HX
      go_wp2_with fail
      refine wp_region_over_lit (by kernel_rfl) (by kernel_rfl) ?_; (repeat (go_big_quiet_step (fail))); refine wpQuiet_nil ?_; rintro _ ⟨x1, rfl⟩
      have HR2 := Lib.hid (HR.out (wo.over x1) ⟨_, rfl⟩)
      clear HR q0 q1 q2
      go_wp2
      exact bodyPost_ret (v := .tuple #[.int .i64 x, .int .i64 y, .int .i64 (N x y : Nat), .bool true]) (by simp [results, Try.results53, go_sem]) rfl HR2.out
end Go.Proofs.Ytpdmfnndegcjjaa
