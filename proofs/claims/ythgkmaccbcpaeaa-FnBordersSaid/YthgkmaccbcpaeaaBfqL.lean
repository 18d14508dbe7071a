/- FnBorders: the law's walk. -/
import Derived.Test.YthgkmaccbcpaeaaBfC
namespace Go.Proofs.Ythgkmaccbcpaeaa
open Go Go.RowKit
set_option maxRecDepth 10000 in
set_option maxHeartbeats 16000000 in
theorem fnBorders_any (a : Option Addr) (c : Nat) (zs : List Int) (a2 : Option Addr) (c2 : Nat) (ys : List Int) (w : World) (h : CodeAt w a zs) (h2 : CodeAt w a2 ys) :
    Calls Try.prog 5 #[.slice a zs.length c, .slice a2 ys.length c2] w fun e w' => e = .returned (.bool true) ∧ w.Ext w' := by
  have HLO := Lib.hid (longR_any a zs.length c a2 ys.length c2 w h.2.2 h2.2.2)
  have HP := Lib.hid (fun w' (hx : w.Ext w') => pic8_any a c zs w' (h.ext hx))
  clear h h2
  go_enter Try.func5, Try.ntmps5
  have HWB : Hid (w.Ext w) := .refl _
  have HX : Hid (w.Ext w) := .refl _
  go_wp2_with fail
  refine (HLO.out).mono ?_
  rintro e v1 ⟨t, rfl, hx, -⟩
  have HX_ := Lib.hid (HX.out.trans hx)
  clear HX
  have HX := HX_
  clear HX_
  clear hx
  cases t
  rotate_left
  · go_wp2
    go_ret
    exact ⟨rfl, HX.out⟩
  go_wp2_with fail
  refine (HP.out v1 (HWB.out.trans HX.out)).mono ?_
  rintro e v2 ⟨pa, pc, ss, rfl, hpic, hx, hrow⟩
  have HX_ := Lib.hid (HX.out.trans hx)
  clear HX
  have HX := HX_
  clear HX_
  have HROW := Lib.hid hrow.row
  obtain ⟨g1, g2, g3, g4, g5, -⟩ := picOk_spec hpic.1
  have g6 := hpic.2.1
  have g7 := hpic.2.2
  obtain ⟨bs, n, X, Y, S, A, T, N, cb, ce, hC⟩ := BoC.ex (pa := pa) (pc := pc) hpic.1 g7 g6
  have HC := Lib.hid hC
  obtain ⟨H, hH⟩ : ∃ H, ss.length = H := ⟨_, rfl⟩
  have HSL := Lib.hid hH
  have hps : (ss.getD 0 ByteArray.empty).size = picW ss := rfl
  have HPS := Lib.hid hps
  rw [hH] at HC g1 g6 ⊢
  have hfew := hC.few
  clear hC hpic hrow HP g2 g4 g5 hps
  clear hx
  obtain ⟨b2, hb2⟩ : ∃ b2, b2 = v2.alloc (.cells #[.slice pa H pc] 26) := ⟨_, rfl⟩
  have hxb : v2.Ext b2 := by rw [hb2]; repeat (first | exact World.Ext.refl _ | exact ⟨_, rfl⟩ | assumption | refine World.Ext.over ?_ _ | refine World.Ext.drewN ?_ _ | refine World.Ext.drew ?_ | refine World.Ext.alloc ?_ _ | refine World.Ext.setCell ?_ (by simp) _)
  have c5_ : b2.cell? ⟨v2.heap.size, 0, none⟩ = some (.slice pa H pc) := by rw [hb2]; simp [go_sem]
  have HALL_ : Hid (∀ w', b2.Ext w' → w'.cell? ⟨v2.heap.size, 0, none⟩ = some (.slice pa H pc) ∧ RowS w' pa ss ∧ True) := fun w' hx' => ⟨hx'.cell c5_, RowOf.ext HROW.out (hxb.trans hx'), trivial⟩
  have HWB_ := Lib.hid (HWB.out.trans (HX.out.trans hxb))
  have HX_ : Hid (b2.Ext b2) := .refl _
  clear hxb c5_ HWB HX
  have HALL := HALL_
  have HWB := HWB_
  have HX := HX_
  clear HALL_ HWB_ HX_
  clear HROW
  go_upto_region 4 with fail
  rw [← hb2]
  clear hb2
  generalize v2.heap.size = q5 at *
  have c5 := (HALL.out b2 HX.out).1
  have lc5 := World.block_lt_of_cell? _ _ c5
  go_wp2_with fail
  refine (HC.out.b b2 (HALL.out b2 HX.out).2.1).mono ?_
  rintro e v3 ⟨ba, bc, rfl, hx, ho⟩
  clear lc5 c5
  have HX_ := Lib.hid (HX.out.trans hx)
  clear HX
  have HX := HX_
  clear HX_
  have HRB := Lib.hid ho.row
  clear ho
  clear hx
  rw [HC.out.len]
  have hxr : v3.Ext v3 := .refl _
  have HALL_ : Hid (∀ w', v3.Ext w' → w'.cell? ⟨q5, 0, none⟩ = some (.slice pa H pc) ∧ RowS w' pa ss ∧ RowBd w' ba bs ∧ True) := fun w' hx' => ⟨(HALL.out w' ((HX.out.trans hxr).trans hx')).1, (HALL.out w' ((HX.out.trans hxr).trans hx')).2.1, HRB.out.ext hx', trivial⟩
  have HWB_ := Lib.hid (HWB.out.trans (HX.out.trans hxr))
  have HX_ : Hid (v3.Ext v3) := .refl _
  clear hxr HWB HX HALL
  have HALL := HALL_
  have HWB := HWB_
  have HX := HX_
  clear HALL_ HWB_ HX_
  clear HRB
  obtain ⟨rb_, ro, rfl, hrc⟩ := ((HALL.out v3 HX.out).2.1) 0 (by rw [HSL.out]; omega)
  rw [Nat.add_zero] at hrc
  have HSZ0 := HPS.out
  generalize ss.getD 0 ByteArray.empty = s0 at hrc HSZ0
  have c5 := (HALL.out v3 HX.out).1
  have lc5 := World.block_lt_of_cell? _ _ c5
  have hH0 : (0 : Int) < (H : Int) := by omega
  have hH1 : 0 < H := by omega
  have hH2 : ¬ H = 0 := by omega
  have hH3 : ¬ (H : Int) ≤ 0 := by omega
  have lrc := World.block_lt_of_cell? _ _ hrc
  have HRB0 := Lib.hid ((HALL.out v3 HX.out).2.2.1)
  go_upto_region 5 with fail
  go_cut [8, 9] (fun u8 u9 wx => ∃ (p8 : Nat) (ab : Option Addr) (cb8 : Nat), u8 = .pointer (some ⟨p8, 0, none⟩) ∧ u9 = .bool true ∧ wx.cell? ⟨p8, 0, none⟩ = some (.slice ab ss.length cb8) ∧ OwnOf Value.string ByteArray.empty v3.heap.size wx.heap.size wx ab ss ∧ v3.Ext wx)
  case first =>
    go_region_held3 (fun w' => w'.cell? ⟨q5, 0, none⟩ = some (.slice (some ⟨rb_, ro, none⟩) H pc) ∧ w'.cell? ⟨rb_, ro, none⟩ = some (.string s0) ∧ v3.Ext w')
      (first | (refine ⟨World.Ext.cell ?_ k_c5, World.Ext.cell ?_ k_rc, World.Ext.trans E5 ?_⟩ <;> ((repeat (first | exact World.Ext.refl _ | exact ⟨_, rfl⟩ | assumption | refine World.Ext.over ?_ _ | refine World.Ext.drewN ?_ _ | refine World.Ext.drew ?_ | refine World.Ext.alloc ?_ _ | refine World.Ext.setCell ?_ ?_ _ | (simp; done))); done)) | (refine ⟨World.Ext.cell ?_ c5, World.Ext.cell ?_ hrc, ?_⟩ <;> ((repeat (first | exact World.Ext.refl _ | exact ⟨_, rfl⟩ | assumption | refine World.Ext.over ?_ _ | refine World.Ext.drewN ?_ _ | refine World.Ext.drew ?_ | refine World.Ext.alloc ?_ _ | refine World.Ext.setCell ?_ ?_ _ | (simp; done))); done)))
      (first | (go_at_call 31; go_loud (refine (HC.out.po _ _ _ (HRB0.out.ext (by repeat (first | exact World.Ext.refl _ | exact ⟨_, rfl⟩ | assumption | refine World.Ext.over ?_ _ | refine World.Ext.drewN ?_ _ | refine World.Ext.drew ?_ | refine World.Ext.alloc ?_ _ | refine World.Ext.setCell ?_ (by simp) _)))).mono ?_; rintro e v9 ⟨ab, cb8, rfl, hx, ho0⟩; have k_c5 := hx.cell (World.Ext.cell (by repeat (first | exact World.Ext.refl _ | exact ⟨_, rfl⟩ | assumption | refine World.Ext.over ?_ _ | refine World.Ext.drewN ?_ _ | refine World.Ext.drew ?_ | refine World.Ext.alloc ?_ _ | refine World.Ext.setCell ?_ (by simp) _)) c5); have lk_c5 := World.block_lt_of_cell? v9 _ k_c5; have k_rc := hx.cell (World.Ext.cell (by repeat (first | exact World.Ext.refl _ | exact ⟨_, rfl⟩ | assumption | refine World.Ext.over ?_ _ | refine World.Ext.drewN ?_ _ | refine World.Ext.drew ?_ | refine World.Ext.alloc ?_ _ | refine World.Ext.setCell ?_ (by simp) _)) hrc); have lk_rc := World.block_lt_of_cell? v9 _ k_rc; have E5 : v3.Ext v9 := World.Ext.trans (by repeat (first | exact World.Ext.refl _ | exact ⟨_, rfl⟩ | assumption | refine World.Ext.over ?_ _ | refine World.Ext.drewN ?_ _ | refine World.Ext.drew ?_ | refine World.Ext.alloc ?_ _ | refine World.Ext.setCell ?_ (by simp) _)) hx; (first | have hA := newCellD hx | have hA := newCell1 hx | skip); (try have hAl := World.block_lt_of_cell? v9 _ hA.1))))
    all_goals (go_wp2_with fail; go_meet; rw [HSL.out]; refine ⟨_, ab, cb8, rfl, rfl, ?_, ?_, ?_⟩)
    all_goals first
      | exact World.cell?_setCell_same _ _ _ hA.1
      | (simp [go_sem]; done)
      | (refine OwnOf.mono (OwnOf.ext ho0 ?_) ?_ ?_ <;> first | ((repeat (first | exact World.Ext.refl _ | exact ⟨_, rfl⟩ | assumption | refine World.Ext.over ?_ _ | refine World.Ext.drewN ?_ _ | refine World.Ext.drew ?_ | refine World.Ext.alloc ?_ _ | refine World.Ext.setCell ?_ ?_ _ | (simp; done))); done) | (simp; done) | (simp; omega) | omega)
      | (refine OwnOf.mono (OwnOf.wrote ho0 (Wrote.setCell (S := fun k => k = _) (Wrote.refl _ _) rfl _) (fun k h1 h2 => ?_)) ?_ ?_ <;> first | (simp; done) | (simp at *; omega) | omega)
      | (refine World.Ext.trans E5 ?_; ((repeat (first | exact World.Ext.refl _ | exact ⟨_, rfl⟩ | assumption | refine World.Ext.over ?_ _ | refine World.Ext.drewN ?_ _ | refine World.Ext.drew ?_ | refine World.Ext.alloc ?_ _ | refine World.Ext.setCell ?_ ?_ _ | (simp; done))); done))
      | (refine World.Ext.setCell E5 ?_ _; first | exact Nat.le_refl _ | (simp; done) | (simp; omega) | omega)
  case rest =>
    obtain ⟨wx, rfl⟩ : ∃ z : World, z = wc := ⟨_, rfl⟩
    obtain ⟨p8, ab, cb8, rfl, rfl, hc8, ho8, hx8⟩ := hcut
    rw [HSL.out] at hc8
    have HC8 := Lib.hid hc8
    have HO8 := Lib.hid ho8.row
    clear hc8 ho8 hrc lrc HRB0 c5 lc5 hH0 hH1 hH2 hH3 HSZ0 HPS
    have HALL_ : Hid (∀ w', wx.Ext w' → w'.cell? ⟨q5, 0, none⟩ = some (.slice (some ⟨rb_, ro, none⟩) H pc) ∧ RowS w' (some ⟨rb_, ro, none⟩) ss ∧ RowBd w' ba bs ∧ w'.cell? ⟨p8, 0, none⟩ = some (.slice ab H cb8) ∧ RowS w' ab ss ∧ True) := fun w' hx' => ⟨(HALL.out w' ((HX.out.trans hx8).trans hx')).1, (HALL.out w' ((HX.out.trans hx8).trans hx')).2.1, (HALL.out w' ((HX.out.trans hx8).trans hx')).2.2.1, hx'.cell HC8.out, RowOf.ext HO8.out hx', trivial⟩
    have HWB_ := Lib.hid (HWB.out.trans (HX.out.trans hx8))
    have HX_ : Hid (wx.Ext wx) := .refl _
    clear hx8 HWB HX HALL
    have HALL := HALL_
    have HWB := HWB_
    have HX := HX_
    clear HALL_ HWB_ HX_
    clear HC8 HO8
    have c5 := (HALL.out wx HX.out).1
    have lc5 := World.block_lt_of_cell? _ _ c5
    go_wp2_with fail
    refine (HC.out.el wx (HALL.out wx HX.out).2.1).mono ?_
    rintro e v4 ⟨rfl, hx⟩
    clear lc5 c5
    have HX_ := Lib.hid (HX.out.trans hx)
    clear HX
    have HX := HX_
    clear HX_
    clear hx
    have c5 := (HALL.out v4 HX.out).1
    have lc5 := World.block_lt_of_cell? _ _ c5
    go_wp2_with fail
    refine (HC.out.ct v4 (HALL.out v4 HX.out).2.1).mono ?_
    rintro e v5 ⟨rfl, hx⟩
    clear lc5 c5
    have HX_ := Lib.hid (HX.out.trans hx)
    clear HX
    have HX := HX_
    clear HX_
    clear hx
    have c5 := (HALL.out v5 HX.out).1
    have lc5 := World.block_lt_of_cell? _ _ c5
    have c8 := (HALL.out v5 HX.out).2.2.2.1
    have lc8 := World.block_lt_of_cell? _ _ c8
    go_wp2_with fail
    refine (HC.out.sm v5 _ _ (HALL.out v5 HX.out).2.2.2.2.1 (HALL.out v5 HX.out).2.1).mono ?_
    rintro e v6 ⟨rfl, hx⟩
    clear lc5 c5 lc8 c8
    have HX_ := Lib.hid (HX.out.trans hx)
    clear HX
    have HX := HX_
    clear HX_
    clear hx
    have HAB : Hid (∀ i, i ≤ n → -(10000 * (i : Int)) ≤ sI A i ∧ sI A i ≤ 10000 * (i : Int)) := fun i => by
      induction i with
      | zero => intro _; show -(10000 * ((0 : Nat) : Int)) ≤ 0 ∧ (0 : Int) ≤ 10000 * ((0 : Nat) : Int); decide
      | succ i ih =>
        intro hi
        have h1 := ih (by omega)
        have h2 := HC.out.ab i (by omega)
        show -(10000 * ((i + 1 : Nat) : Int)) ≤ sI A i + A i ∧ sI A i + A i ≤ 10000 * ((i + 1 : Nat) : Int)
        omega
    have HNB : Hid (∀ i, i ≤ n → 0 ≤ sI (fun j => ((N j : Nat) : Int)) i ∧ sI (fun j => ((N j : Nat) : Int)) i ≤ 600 * (i : Int)) := fun i => by
      induction i with
      | zero => intro _; show (0 : Int) ≤ 0 ∧ (0 : Int) ≤ 600 * ((0 : Nat) : Int); decide
      | succ i ih =>
        intro hi
        have h1 := ih (by omega)
        have h2 := HC.out.sz i (by omega)
        show 0 ≤ sI (fun j => ((N j : Nat) : Int)) i + (N i : Int) ∧ sI (fun j => ((N j : Nat) : Int)) i + (N i : Int) ≤ 600 * ((i + 1 : Nat) : Int)
        omega
    obtain ⟨SA, hSA⟩ : ∃ SA, SA = sI A := ⟨_, rfl⟩
    obtain ⟨SN, hSN⟩ : ∃ SN, SN = sI (fun j => ((N j : Nat) : Int)) := ⟨_, rfl⟩
    rw [← hSA] at HAB
    rw [← hSN] at HNB
    have HSA1 : Hid (∀ i, SA (i + 1) = SA i + A i) := fun i => by rw [hSA]; rfl
    have HSN1 : Hid (∀ i, SN (i + 1) = SN i + (N i : Int)) := fun i => by rw [hSN]; rfl
    have HSA0 : Hid (SA 0 = 0 ∧ SN 0 = 0) := ⟨by rw [hSA]; rfl, by rw [hSN]; rfl⟩
    have HSAE : Hid (SA n = cb ∧ SN n = ce) := ⟨by rw [hSA]; exact HC.out.ca, by rw [hSN]; exact HC.out.cs⟩
    clear hSA hSN
    go_wp2
    go_loopw [14, 15, 16, 17, 18, 19, 20, 21, 22, 23] (fun ar st k _ _ _ _ _ _ _ wr => ∃ i : Nat, i ≤ n ∧ k = .int .i64 i ∧ ar = .int .i64 (SA i) ∧ st = .int .i64 (SN i) ∧ Hid (wx.Ext wr)) (fun _ _ k _ _ _ _ _ _ _ _ => n - (intOf k).toNat)
    case atStart => exact ⟨0, Nat.zero_le _, rfl, by rw [HSA0.out.1], by rw [HSA0.out.2], HX⟩
    case round =>
      clear HX
      obtain ⟨i, hi, rfl, rfl, rfl, HX⟩ := hrel
      obtain ⟨wa, rfl⟩ : ∃ wa : World, wa = wr := ⟨_, rfl⟩
      have hi0 : (0 : Int) ≤ (i : Int) := by omega
      by_cases hlt : i < n
      · have hlt' : (i : Int) < (n : Int) := by omega
        obtain ⟨bb_, bo_, rfl, d0, d1, d2⟩ := ((HALL.out wa HX.out).2.2.1) i (by rw [HC.out.len]; exact hlt)
        rw [HC.out.at_ i hlt] at d0 d1 d2
        dsimp only at d0 d1 d2
        have HSA := Lib.hid (HC.out.sa i hlt)
        have HTU := Lib.hid (HC.out.tu i hlt)
        have HIB := Lib.hid (HC.out.ib i hlt)
        have HB1 := Lib.hid (HC.out.b1 i hlt)
        have HB2 := Lib.hid (HC.out.b2 i hlt)
        have HBA := Lib.hid (HC.out.ba i hlt)
        have hsg := HC.out.sg i hlt
        have hab := HC.out.ab i hlt
        obtain ⟨hsz, hn4, hn6⟩ := HC.out.sz i hlt
        obtain ⟨hs0, hl0⟩ := HC.out.l0 i hlt
        have hxb := HC.out.xb i hlt
        have HA1 := Lib.hid (HSA1.out i)
        have HN1 := Lib.hid (HSN1.out i)
        have hA0 := HAB.out i hi
        have hN0 := HNB.out i hi
        have hbyte : ((((S i)[0]'hs0).toNat : Nat) != 114) = false := by rw [hl0]; rfl
        have hbyte2 : (((((S i)[0]'hs0).toNat : Nat) : Int) != 114) = false := by rw [hl0]; rfl
        have hs0' : (0 : Int) < ((S i).size : Int) := by omega
        have hszI : ((S i).size : Int) = (N i : Int) := by rw [hsz]
        clear hl0 hsz
        generalize X i = x at *
        generalize Y i = y at *
        generalize S i = s at *
        generalize A i = av at *
        generalize T i = tv at *
        generalize N i = nv at *
        generalize SA i = sa at *
        generalize SN i = sn at *
        obtain ⟨b6, hb6⟩ : ∃ b6, b6 = wa.alloc (.cells #[.int .i64 x, .int .i64 y, .string s] 62) := ⟨_, rfl⟩
        have hxb : wa.Ext b6 := by rw [hb6]; repeat (first | exact World.Ext.refl _ | exact ⟨_, rfl⟩ | assumption | refine World.Ext.over ?_ _ | refine World.Ext.drewN ?_ _ | refine World.Ext.drew ?_ | refine World.Ext.alloc ?_ _ | refine World.Ext.setCell ?_ (by simp) _)
        have e0_ : b6.cell? ⟨wa.heap.size, 0, none⟩ = some (.int .i64 x) := by rw [hb6]; simp [go_sem]
        have e1_ : b6.cell? ⟨wa.heap.size, 1, none⟩ = some (.int .i64 y) := by rw [hb6]; simp [go_sem]
        have e2_ : b6.cell? ⟨wa.heap.size, 2, none⟩ = some (.string s) := by rw [hb6]; simp [go_sem]
        have HALL_ : Hid (∀ w', b6.Ext w' → w'.cell? ⟨q5, 0, none⟩ = some (.slice (some ⟨rb_, ro, none⟩) H pc) ∧ RowS w' (some ⟨rb_, ro, none⟩) ss ∧ RowBd w' (some ⟨bb_, bo_, none⟩) bs ∧ w'.cell? ⟨p8, 0, none⟩ = some (.slice ab H cb8) ∧ RowS w' ab ss ∧ w'.cell? ⟨wa.heap.size, 0, none⟩ = some (.int .i64 x) ∧ w'.cell? ⟨wa.heap.size, 1, none⟩ = some (.int .i64 y) ∧ w'.cell? ⟨wa.heap.size, 2, none⟩ = some (.string s) ∧ wx.Ext w' ∧ True) := fun w' hx' => ⟨(HALL.out w' ((HX.out.trans hxb).trans hx')).1, (HALL.out w' ((HX.out.trans hxb).trans hx')).2.1, (HALL.out w' ((HX.out.trans hxb).trans hx')).2.2.1, (HALL.out w' ((HX.out.trans hxb).trans hx')).2.2.2.1, (HALL.out w' ((HX.out.trans hxb).trans hx')).2.2.2.2.1, hx'.cell e0_, hx'.cell e1_, hx'.cell e2_, HX.out.trans (hxb.trans hx'), trivial⟩
        have HWB_ := Lib.hid (HWB.out.trans (HX.out.trans hxb))
        have HX_ : Hid (b6.Ext b6) := .refl _
        clear hxb e0_ e1_ e2_ HWB HX HALL
        have HALL := HALL_
        have HWB := HWB_
        have HX := HX_
        clear HALL_ HWB_ HX_
        go_upto_region 16 with fail
        rw [← hb6]
        clear hb6
        generalize wa.heap.size = q17 at *
        have e0 := (HALL.out b6 HX.out).2.2.2.2.2.1
        have le0 := World.block_lt_of_cell? _ _ e0
        have e1 := (HALL.out b6 HX.out).2.2.2.2.2.2.1
        have le1 := World.block_lt_of_cell? _ _ e1
        have e2 := (HALL.out b6 HX.out).2.2.2.2.2.2.2.1
        have le2 := World.block_lt_of_cell? _ _ e2
        go_wp2_with fail
        refine (HSA.out b6).mono ?_
        rintro e v7 ⟨rfl, hx⟩
        clear le0 e0 le1 e1 le2 e2
        have HX_ := Lib.hid (HX.out.trans hx)
        clear HX
        have HX := HX_
        clear HX_
        clear HSA d0 d1 d2
        clear hx
        have e0 := (HALL.out v7 HX.out).2.2.2.2.2.1
        have le0 := World.block_lt_of_cell? _ _ e0
        have e1 := (HALL.out v7 HX.out).2.2.2.2.2.2.1
        have le1 := World.block_lt_of_cell? _ _ e1
        have e2 := (HALL.out v7 HX.out).2.2.2.2.2.2.2.1
        have le2 := World.block_lt_of_cell? _ _ e2
        go_wp2_with fail
        refine (HTU.out v7).mono ?_
        rintro e v8 ⟨rfl, hx⟩
        clear le0 e0 le1 e1 le2 e2
        have HX_ := Lib.hid (HX.out.trans hx)
        clear HX
        have HX := HX_
        clear HX_
        clear HTU
        clear hx
        rcases hsg with ⟨rfl, hav⟩ | ⟨rfl, hav⟩
        · as_aux_lemma =>
          have tp : decide (0 < av) = true := decide_eq_true hav
          have tz : (av == 0) = false := by rw [beq_eq_false_iff_ne]; omega
          have e0 := (HALL.out v8 HX.out).2.2.2.2.2.1
          have le0 := World.block_lt_of_cell? _ _ e0
          have e1 := (HALL.out v8 HX.out).2.2.2.2.2.2.1
          have le1 := World.block_lt_of_cell? _ _ e1
          have e2 := (HALL.out v8 HX.out).2.2.2.2.2.2.2.1
          have le2 := World.block_lt_of_cell? _ _ e2
          go_wp2_with fail
          refine (HIB.out v8).mono ?_
          rintro e v9 ⟨rfl, hx⟩
          clear le0 e0 le1 e1 le2 e2
          have HX_ := Lib.hid (HX.out.trans hx)
          clear HX
          have HX := HX_
          clear HX_
          clear HIB
          clear hx
          have c5 := (HALL.out v9 HX.out).1
          have lc5 := World.block_lt_of_cell? _ _ c5
          have e0 := (HALL.out v9 HX.out).2.2.2.2.2.1
          have le0 := World.block_lt_of_cell? _ _ e0
          have e1 := (HALL.out v9 HX.out).2.2.2.2.2.2.1
          have le1 := World.block_lt_of_cell? _ _ e1
          have e2 := (HALL.out v9 HX.out).2.2.2.2.2.2.2.1
          have le2 := World.block_lt_of_cell? _ _ e2
          go_wp2_with fail
          refine (HB1.out v9 (HALL.out v9 HX.out).2.1).mono ?_
          rintro e v10 ⟨rfl, hx⟩
          clear lc5 c5 le0 e0 le1 e1 le2 e2
          have HX_ := Lib.hid (HX.out.trans hx)
          clear HX
          have HX := HX_
          clear HX_
          clear HB1
          clear hx
          have c5 := (HALL.out v10 HX.out).1
          have lc5 := World.block_lt_of_cell? _ _ c5
          have e0 := (HALL.out v10 HX.out).2.2.2.2.2.1
          have le0 := World.block_lt_of_cell? _ _ e0
          have e1 := (HALL.out v10 HX.out).2.2.2.2.2.2.1
          have le1 := World.block_lt_of_cell? _ _ e1
          have e2 := (HALL.out v10 HX.out).2.2.2.2.2.2.2.1
          have le2 := World.block_lt_of_cell? _ _ e2
          go_wp2_with fail
          refine (HB2.out v10 (HALL.out v10 HX.out).2.1).mono ?_
          rintro e v11 ⟨rfl, hx⟩
          clear lc5 c5 le0 e0 le1 e1 le2 e2
          have HX_ := Lib.hid (HX.out.trans hx)
          clear HX
          have HX := HX_
          clear HX_
          clear HB2
          clear hx
          have c5 := (HALL.out v11 HX.out).1
          have lc5 := World.block_lt_of_cell? _ _ c5
          have e0 := (HALL.out v11 HX.out).2.2.2.2.2.1
          have le0 := World.block_lt_of_cell? _ _ e0
          have e1 := (HALL.out v11 HX.out).2.2.2.2.2.2.1
          have le1 := World.block_lt_of_cell? _ _ e1
          have e2 := (HALL.out v11 HX.out).2.2.2.2.2.2.2.1
          have le2 := World.block_lt_of_cell? _ _ e2
          go_wp2_with fail
          refine (HBA.out v11 (HALL.out v11 HX.out).2.1).mono ?_
          rintro e v12 ⟨rfl, hx⟩
          clear lc5 c5 le0 e0 le1 e1 le2 e2
          have HX_ := Lib.hid (HX.out.trans hx)
          clear HX
          have HX := HX_
          clear HX_
          clear HBA
          clear hx
          obtain ⟨b12, hb12⟩ : ∃ b12, b12 = v12.alloc (.cells #[.int .i64 x, .int .i64 y, .string s] 62) := ⟨_, rfl⟩
          have hxb : v12.Ext b12 := by rw [hb12]; repeat (first | exact World.Ext.refl _ | exact ⟨_, rfl⟩ | assumption | refine World.Ext.over ?_ _ | refine World.Ext.drewN ?_ _ | refine World.Ext.drew ?_ | refine World.Ext.alloc ?_ _ | refine World.Ext.setCell ?_ (by simp) _)
          have g0_ : b12.cell? ⟨v12.heap.size, 0, none⟩ = some (.int .i64 x) := by rw [hb12]; simp [go_sem]
          have g1_ : b12.cell? ⟨v12.heap.size, 1, none⟩ = some (.int .i64 y) := by rw [hb12]; simp [go_sem]
          have g2_ : b12.cell? ⟨v12.heap.size, 2, none⟩ = some (.string s) := by rw [hb12]; simp [go_sem]
          have HALL_ : Hid (∀ w', b12.Ext w' → w'.cell? ⟨q5, 0, none⟩ = some (.slice (some ⟨rb_, ro, none⟩) H pc) ∧ RowS w' (some ⟨rb_, ro, none⟩) ss ∧ RowBd w' (some ⟨bb_, bo_, none⟩) bs ∧ w'.cell? ⟨p8, 0, none⟩ = some (.slice ab H cb8) ∧ RowS w' ab ss ∧ w'.cell? ⟨q17, 0, none⟩ = some (.int .i64 x) ∧ w'.cell? ⟨q17, 1, none⟩ = some (.int .i64 y) ∧ w'.cell? ⟨q17, 2, none⟩ = some (.string s) ∧ wx.Ext w' ∧ w'.cell? ⟨v12.heap.size, 0, none⟩ = some (.int .i64 x) ∧ w'.cell? ⟨v12.heap.size, 1, none⟩ = some (.int .i64 y) ∧ w'.cell? ⟨v12.heap.size, 2, none⟩ = some (.string s) ∧ True) := fun w' hx' => ⟨(HALL.out w' ((HX.out.trans hxb).trans hx')).1, (HALL.out w' ((HX.out.trans hxb).trans hx')).2.1, (HALL.out w' ((HX.out.trans hxb).trans hx')).2.2.1, (HALL.out w' ((HX.out.trans hxb).trans hx')).2.2.2.1, (HALL.out w' ((HX.out.trans hxb).trans hx')).2.2.2.2.1, (HALL.out w' ((HX.out.trans hxb).trans hx')).2.2.2.2.2.1, (HALL.out w' ((HX.out.trans hxb).trans hx')).2.2.2.2.2.2.1, (HALL.out w' ((HX.out.trans hxb).trans hx')).2.2.2.2.2.2.2.1, (HALL.out w' ((HX.out.trans hxb).trans hx')).2.2.2.2.2.2.2.2.1, hx'.cell g0_, hx'.cell g1_, hx'.cell g2_, trivial⟩
          have HWB_ := Lib.hid (HWB.out.trans (HX.out.trans hxb))
          have HX_ : Hid (b12.Ext b12) := .refl _
          clear hxb g0_ g1_ g2_ HWB HX HALL
          have HALL := HALL_
          have HWB := HWB_
          have HX := HX_
          clear HALL_ HWB_ HX_
          go_upto_region 25 with fail
          rw [← hb12]
          clear hb12
          generalize v12.heap.size = q22 at *
          have e0 := (HALL.out b12 HX.out).2.2.2.2.2.1
          have le0 := World.block_lt_of_cell? _ _ e0
          have e1 := (HALL.out b12 HX.out).2.2.2.2.2.2.1
          have le1 := World.block_lt_of_cell? _ _ e1
          have e2 := (HALL.out b12 HX.out).2.2.2.2.2.2.2.1
          have le2 := World.block_lt_of_cell? _ _ e2
          have g0 := (HALL.out b12 HX.out).2.2.2.2.2.2.2.2.2.1
          have lg0 := World.block_lt_of_cell? _ _ g0
          have g1 := (HALL.out b12 HX.out).2.2.2.2.2.2.2.2.2.2.1
          have lg1 := World.block_lt_of_cell? _ _ g1
          have g2 := (HALL.out b12 HX.out).2.2.2.2.2.2.2.2.2.2.2.1
          have lg2 := World.block_lt_of_cell? _ _ g2
          have f1 : ((x == x && y == y) && s.toList == s.toList) = true := by simp
          have HX9 := Lib.hid ((HALL.out b12 HX.out).2.2.2.2.2.2.2.2.1)
          clear HALL
          go_wp2_with fail
          go_roundw
          case rel => exact ⟨i + 1, by omega, by go_num, by rw [HA1.out], by rw [HN1.out, ← hszI], HX9⟩
          case measure => simp [intOf]; omega
        · as_aux_lemma =>
          have tp : decide (0 < av) = false := decide_eq_false (by omega)
          have tz : (av == 0) = false := by rw [beq_eq_false_iff_ne]; omega
          have tn : ¬ 0 < av := by omega
          have e0 := (HALL.out v8 HX.out).2.2.2.2.2.1
          have le0 := World.block_lt_of_cell? _ _ e0
          have e1 := (HALL.out v8 HX.out).2.2.2.2.2.2.1
          have le1 := World.block_lt_of_cell? _ _ e1
          have e2 := (HALL.out v8 HX.out).2.2.2.2.2.2.2.1
          have le2 := World.block_lt_of_cell? _ _ e2
          go_wp2_with fail
          refine (HIB.out v8).mono ?_
          rintro e v9 ⟨rfl, hx⟩
          clear le0 e0 le1 e1 le2 e2
          have HX_ := Lib.hid (HX.out.trans hx)
          clear HX
          have HX := HX_
          clear HX_
          clear HIB
          clear hx
          have c5 := (HALL.out v9 HX.out).1
          have lc5 := World.block_lt_of_cell? _ _ c5
          have e0 := (HALL.out v9 HX.out).2.2.2.2.2.1
          have le0 := World.block_lt_of_cell? _ _ e0
          have e1 := (HALL.out v9 HX.out).2.2.2.2.2.2.1
          have le1 := World.block_lt_of_cell? _ _ e1
          have e2 := (HALL.out v9 HX.out).2.2.2.2.2.2.2.1
          have le2 := World.block_lt_of_cell? _ _ e2
          go_wp2_with fail
          refine (HB1.out v9 (HALL.out v9 HX.out).2.1).mono ?_
          rintro e v10 ⟨rfl, hx⟩
          clear lc5 c5 le0 e0 le1 e1 le2 e2
          have HX_ := Lib.hid (HX.out.trans hx)
          clear HX
          have HX := HX_
          clear HX_
          clear HB1
          clear hx
          have c5 := (HALL.out v10 HX.out).1
          have lc5 := World.block_lt_of_cell? _ _ c5
          have e0 := (HALL.out v10 HX.out).2.2.2.2.2.1
          have le0 := World.block_lt_of_cell? _ _ e0
          have e1 := (HALL.out v10 HX.out).2.2.2.2.2.2.1
          have le1 := World.block_lt_of_cell? _ _ e1
          have e2 := (HALL.out v10 HX.out).2.2.2.2.2.2.2.1
          have le2 := World.block_lt_of_cell? _ _ e2
          go_wp2_with fail
          refine (HB2.out v10 (HALL.out v10 HX.out).2.1).mono ?_
          rintro e v11 ⟨rfl, hx⟩
          clear lc5 c5 le0 e0 le1 e1 le2 e2
          have HX_ := Lib.hid (HX.out.trans hx)
          clear HX
          have HX := HX_
          clear HX_
          clear HB2
          clear hx
          have c5 := (HALL.out v11 HX.out).1
          have lc5 := World.block_lt_of_cell? _ _ c5
          have e0 := (HALL.out v11 HX.out).2.2.2.2.2.1
          have le0 := World.block_lt_of_cell? _ _ e0
          have e1 := (HALL.out v11 HX.out).2.2.2.2.2.2.1
          have le1 := World.block_lt_of_cell? _ _ e1
          have e2 := (HALL.out v11 HX.out).2.2.2.2.2.2.2.1
          have le2 := World.block_lt_of_cell? _ _ e2
          go_wp2_with fail
          refine (HBA.out v11 (HALL.out v11 HX.out).2.1).mono ?_
          rintro e v12 ⟨rfl, hx⟩
          clear lc5 c5 le0 e0 le1 e1 le2 e2
          have HX_ := Lib.hid (HX.out.trans hx)
          clear HX
          have HX := HX_
          clear HX_
          clear HBA
          clear hx
          obtain ⟨b12, hb12⟩ : ∃ b12, b12 = v12.alloc (.cells #[.int .i64 x, .int .i64 y, .string s] 62) := ⟨_, rfl⟩
          have hxb : v12.Ext b12 := by rw [hb12]; repeat (first | exact World.Ext.refl _ | exact ⟨_, rfl⟩ | assumption | refine World.Ext.over ?_ _ | refine World.Ext.drewN ?_ _ | refine World.Ext.drew ?_ | refine World.Ext.alloc ?_ _ | refine World.Ext.setCell ?_ (by simp) _)
          have g0_ : b12.cell? ⟨v12.heap.size, 0, none⟩ = some (.int .i64 x) := by rw [hb12]; simp [go_sem]
          have g1_ : b12.cell? ⟨v12.heap.size, 1, none⟩ = some (.int .i64 y) := by rw [hb12]; simp [go_sem]
          have g2_ : b12.cell? ⟨v12.heap.size, 2, none⟩ = some (.string s) := by rw [hb12]; simp [go_sem]
          have HALL_ : Hid (∀ w', b12.Ext w' → w'.cell? ⟨q5, 0, none⟩ = some (.slice (some ⟨rb_, ro, none⟩) H pc) ∧ RowS w' (some ⟨rb_, ro, none⟩) ss ∧ RowBd w' (some ⟨bb_, bo_, none⟩) bs ∧ w'.cell? ⟨p8, 0, none⟩ = some (.slice ab H cb8) ∧ RowS w' ab ss ∧ w'.cell? ⟨q17, 0, none⟩ = some (.int .i64 x) ∧ w'.cell? ⟨q17, 1, none⟩ = some (.int .i64 y) ∧ w'.cell? ⟨q17, 2, none⟩ = some (.string s) ∧ wx.Ext w' ∧ w'.cell? ⟨v12.heap.size, 0, none⟩ = some (.int .i64 x) ∧ w'.cell? ⟨v12.heap.size, 1, none⟩ = some (.int .i64 y) ∧ w'.cell? ⟨v12.heap.size, 2, none⟩ = some (.string s) ∧ True) := fun w' hx' => ⟨(HALL.out w' ((HX.out.trans hxb).trans hx')).1, (HALL.out w' ((HX.out.trans hxb).trans hx')).2.1, (HALL.out w' ((HX.out.trans hxb).trans hx')).2.2.1, (HALL.out w' ((HX.out.trans hxb).trans hx')).2.2.2.1, (HALL.out w' ((HX.out.trans hxb).trans hx')).2.2.2.2.1, (HALL.out w' ((HX.out.trans hxb).trans hx')).2.2.2.2.2.1, (HALL.out w' ((HX.out.trans hxb).trans hx')).2.2.2.2.2.2.1, (HALL.out w' ((HX.out.trans hxb).trans hx')).2.2.2.2.2.2.2.1, (HALL.out w' ((HX.out.trans hxb).trans hx')).2.2.2.2.2.2.2.2.1, hx'.cell g0_, hx'.cell g1_, hx'.cell g2_, trivial⟩
          have HWB_ := Lib.hid (HWB.out.trans (HX.out.trans hxb))
          have HX_ : Hid (b12.Ext b12) := .refl _
          clear hxb g0_ g1_ g2_ HWB HX HALL
          have HALL := HALL_
          have HWB := HWB_
          have HX := HX_
          clear HALL_ HWB_ HX_
          go_upto_region 25 with fail
          rw [← hb12]
          clear hb12
          generalize v12.heap.size = q22 at *
          have e0 := (HALL.out b12 HX.out).2.2.2.2.2.1
          have le0 := World.block_lt_of_cell? _ _ e0
          have e1 := (HALL.out b12 HX.out).2.2.2.2.2.2.1
          have le1 := World.block_lt_of_cell? _ _ e1
          have e2 := (HALL.out b12 HX.out).2.2.2.2.2.2.2.1
          have le2 := World.block_lt_of_cell? _ _ e2
          have g0 := (HALL.out b12 HX.out).2.2.2.2.2.2.2.2.2.1
          have lg0 := World.block_lt_of_cell? _ _ g0
          have g1 := (HALL.out b12 HX.out).2.2.2.2.2.2.2.2.2.2.1
          have lg1 := World.block_lt_of_cell? _ _ g1
          have g2 := (HALL.out b12 HX.out).2.2.2.2.2.2.2.2.2.2.2.1
          have lg2 := World.block_lt_of_cell? _ _ g2
          have f1 : ((x == x && y == y) && s.toList == s.toList) = true := by simp
          have HX9 := Lib.hid ((HALL.out b12 HX.out).2.2.2.2.2.2.2.2.1)
          clear HALL
          go_wp2_with fail
          go_roundw
          case rel => exact ⟨i + 1, by omega, by go_num, by rw [HA1.out], by rw [HN1.out, ← hszI], HX9⟩
          case measure => simp [intOf]; omega
      · have : i = n := by omega
        subst this
        have hlt' : ¬ (i : Int) < (i : Int) := by omega
        rw [HSAE.out.1, HSAE.out.2]
        have HXE := Lib.hid (HWB.out.trans HX.out)
        go_wp2
        go_ret
        exact ⟨rfl, HXE.out⟩
end Go.Proofs.Ythgkmaccbcpaeaa
