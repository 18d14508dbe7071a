/- OpenAreas: the program's side. -/
import Derived.Test.YtmmanehdmnkekaaGtF
namespace Go.Proofs.Ytmmanehdmnkekaa
open Go Go.RowKit
theorem OpRet.no {w w' : World} (hx : w.Ext w') : GreyRet2 w [] false (.returned (.tuple #[.agg #[.slice none 0 0], .bool false])) w' := ⟨none, 0, _, _, rfl, hx, OwnMat.none _ _ _ _⟩
def opnO (m : List (List Int)) (h : Int) : Bool := tableOk m 99 && inB h 1 256
noncomputable def opnL (W H : Nat) (l : List Int) (h : Int) : List Int := (List.range (H * W)).map fun j => openV W H l h j (nodeL W H l).length
theorem opnL_len (W H : Nat) (l : List Int) (h : Int) : (opnL W H l h).length = H * W := by simp [opnL]
theorem opnL_at {W H : Nat} {l : List Int} {h : Int} {j : Nat} (hj : j < H * W) : (opnL W H l h).getD j 0 = openV W H l h j (nodeL W H l).length := by
  unfold opnL
  rw [List.getD_eq_getElem?_getD, List.getElem?_map, List.getElem?_range hj]
  rfl
theorem opn_bnd (m : List (List Int)) (h : Int) (l : List Int) : MatBnd (optM (opnO m h) (grl (m.getD 0 []).length m.length l)) ∧ offM (optM (opnO m h) (grl (m.getD 0 []).length m.length l)) (optM (opnO m h) (grl (m.getD 0 []).length m.length l)).length ≤ 1048576 := by
  cases hc : opnO m h
  · exact ⟨⟨by simp [optM], fun r => by simp [optM]⟩, by simp [optM, offM]⟩
  · unfold opnO at hc
    rw [Bool.and_eq_true] at hc
    obtain ⟨v1, v2, v3, v4, -, -⟩ := tableOk_spec hc.1
    exact optM_bnd true _ _ _ (by omega) (by omega)
theorem lenMap_run {w : World} {b n clock : Nat} {es : Array MapEntry} (hb : w.heap[b]? = some (.map es clock)) (hn : es.size = n) : (Builtin.len_ #[194] 3 #[.map (some b)]).run Try.prog w = .ok (.int .i64 (n : Int)) w := by
  subst hn
  simp [Builtin.len_, run_underlying Try.underlying194, run_getObj_map w b es clock hb, goInt]
set_option maxRecDepth 5000 in
set_option maxHeartbeats 3200000 in
theorem opA1_any (bn bl W H : Nat) (l : List Int) (a : Option Addr) (c : Nat) (qs : List NdV) (least : Int) (j : Nat) (w : World) (hW : W ≤ 64) (hH : H ≤ 64) (hj : j < H * W)
    (hn : w.cell? ⟨bn, 0, none⟩ = some (.slice a qs.length c)) (hle : w.cell? ⟨bl, 0, none⟩ = some (.int .i64 least)) (hq : NdsAt w W H l a qs) (hl : qs.length ≤ 1000) (hp : 0 < qs.length) :
    Calls Try.prog 145 #[.agg #[.int .i64 ((j % W : Nat) : Int), .int .i64 ((j / W : Nat) : Int)], .pointer (some ⟨bn, 0, none⟩), .pointer (some ⟨bl, 0, none⟩)] w fun e w' => e = .returned (.int .i64 (openV W H l least j qs.length)) ∧ w.Ext w' := by
  obtain ⟨b0, o0, rfl, z0, -⟩ := hq.row 0 hp
  have e0 : openV W H l least j 0 = (qs.getD 0 nd0).1 := by rw [openV_zero, (hq.get hp).2.1]
  rw [← e0, Nat.zero_mul, Nat.add_zero] at z0
  have HQ := Lib.hid hq
  have HN := Lib.hid hn
  have HLE := Lib.hid hle
  have ln := World.block_lt_of_cell? _ _ hn
  have lz := World.block_lt_of_cell? _ _ z0
  dsimp only at ln lz
  obtain ⟨n, hnn⟩ : ∃ n, n = qs.length := ⟨_, rfl⟩
  have HNN := Lib.hid hnn
  have HNL : Hid (n = (nodeL W H l).length) := by show _ = _; rw [hnn, hq.len]
  rw [← hnn] at hl hp hn HN
  rw [← hnn]
  have hx0 : w.Ext (w.alloc (.cells #[.int .i64 ((j % W : Nat) : Int), .int .i64 ((j / W : Nat) : Int)] 58)) := by repeat (first | exact World.Ext.refl _ | exact ⟨_, rfl⟩ | assumption | refine World.Ext.over ?_ _ | refine World.Ext.drewN ?_ _ | refine World.Ext.drew ?_ | refine World.Ext.alloc ?_ _ | refine World.Ext.setCell ?_ (by simp) _)
  have hd : ∀ wr, (w.alloc (.cells #[.int .i64 ((j % W : Nat) : Int), .int .i64 ((j / W : Nat) : Int)] 58)).Ext wr → wr.cell? ⟨w.heap.size, 0, none⟩ = some (.int .i64 ((j % W : Nat) : Int)) ∧ wr.cell? ⟨w.heap.size, 1, none⟩ = some (.int .i64 ((j / W : Nat) : Int)) ∧ wr.cell? ⟨bn, 0, none⟩ = some (.slice (some ⟨b0, o0, none⟩) n c) ∧ wr.cell? ⟨bl, 0, none⟩ = some (.int .i64 least) := fun wr hx =>
    ⟨hx.cell (by simp [go_sem]), hx.cell (by simp [go_sem]), (hx0.trans hx).cell hn, (hx0.trans hx).cell hle⟩
  have HD := Lib.hid hd
  have HX0 := Lib.hid hx0
  have HPT : Hid (∀ (w' : World) (k : Nat), w.Ext w' → k < n → (Instr.lookup 194 (.map (some (qs.getD k nd0).2.2.2)) (.agg #[.int .i64 ((j % W : Nat) : Int), .int .i64 ((j / W : Nat) : Int)]) false).run Try.prog w' = .ok (.bool (holdN W H l j k)) w' ∧ (Builtin.len_ #[194] 3 #[.map (some (qs.getD k nd0).2.2.2)]).run Try.prog w' = .ok (.int .i64 (arN W H l ((nodeL W H l).getD k (0, 0)) : Int)) w') := fun w' k hx hk => by
    obtain ⟨-, g2, -, g4⟩ := (HQ.out.ext hx).get (i := k) (by rw [← hnn]; exact hk)
    rw [g2] at g4
    refine ⟨g4.look hj hW hH, ?_⟩
    obtain ⟨es, clock, hb, hs⟩ := g4.len
    exact lenMap_run hb hs
  clear hq hle hd hx0 hnn e0 hj
  generalize j % W = x at *
  generalize j / W = y at *
  go_enter Try.func145, Try.ntmps145
  go_wp2_with fail
  go_loopw [5, 14] (fun v i wr => ∃ k : Nat, k ≤ n ∧ i = .int .i64 k ∧ v = .int .i64 (openV W H l least j k) ∧ Hid ((w.alloc (.cells #[.int .i64 (x : Int), .int .i64 (y : Int)] 58)).Ext wr)) (fun _ i _ => n - (intOf i).toNat)
  case atStart => exact ⟨0, Nat.zero_le _, rfl, rfl, .refl _⟩
  case round =>
    clear z0 ln lz hn
    obtain ⟨k, hk, rfl, rfl, HX⟩ := hrel
    obtain ⟨wo, rfl⟩ : ∃ wo : World, wo = wr := ⟨_, rfl⟩
    by_cases hlt : k < n
    · have hlt' : (k : Int) < (n : Int) := by omega
      have hk0 : (0 : Int) ≤ (k : Int) := by omega
      obtain ⟨b, o, e, c0, c1, c2, c3⟩ := (HQ.out.row.ext (HX0.out.trans HX.out)) k (by rw [← HNN.out]; exact hlt)
      cases e
      obtain ⟨d0, d1, d2, d3⟩ := HD.out wo HX.out
      have ld := World.block_lt_of_cell? _ _ d0
      have ln := World.block_lt_of_cell? _ _ d2
      have ll := World.block_lt_of_cell? _ _ d3
      dsimp only at ld ln ll
      obtain ⟨h1, h2⟩ := HPT.out (wo.alloc (.cells #[.int .i64 (qs.getD k nd0).1, .int .i64 (qs.getD k nd0).2.1, .int .i64 (qs.getD k nd0).2.2.1, .map (some (qs.getD k nd0).2.2.2)] 196)) k (HX0.out.trans (HX.out.trans (by repeat (first | exact World.Ext.refl _ | exact ⟨_, rfl⟩ | assumption | refine World.Ext.over ?_ _ | refine World.Ext.drewN ?_ _ | refine World.Ext.drew ?_ | refine World.Ext.alloc ?_ _ | refine World.Ext.setCell ?_ (by simp) _)))) hlt
      have hg := (HQ.out.get (i := k) (by rw [← HNN.out]; exact hlt)).2.1
      have HYN : Hid ((holdN W H l j k && decide (least ≤ (arN W H l ((nodeL W H l).getD k (0, 0)) : Int))) = false → openV W H l least j (k + 1) = openV W H l least j k) := openV_no
      have HYY : Hid ((holdN W H l j k && decide (least ≤ (arN W H l ((nodeL W H l).getD k (0, 0)) : Int))) = true → openV W H l least j (k + 1) = (qs.getD k nd0).1 ∧ openV W H l least j k ≤ (qs.getD k nd0).1) := fun h => by
        rw [hg]
        exact openV_yes (by rw [← HNL.out]; exact hlt) h
      have HX2 := Lib.hid (HX.out.trans (show wo.Ext (wo.alloc (.cells #[.int .i64 (qs.getD k nd0).1, .int .i64 (qs.getD k nd0).2.1, .int .i64 (qs.getD k nd0).2.2.1, .map (some (qs.getD k nd0).2.2.2)] 196)) by repeat (first | exact World.Ext.refl _ | exact ⟨_, rfl⟩ | assumption | refine World.Ext.over ?_ _ | refine World.Ext.drewN ?_ _ | refine World.Ext.drew ?_ | refine World.Ext.alloc ?_ _ | refine World.Ext.setCell ?_ (by simp) _)))
      clear hg HX
      generalize (qs.getD k nd0).1 = lk at *
      generalize (qs.getD k nd0).2.1 = xk at *
      generalize (qs.getD k nd0).2.2.1 = yk at *
      generalize (qs.getD k nd0).2.2.2 = mk at *
      generalize arN W H l ((nodeL W H l).getD k (0, 0)) = ar at *
      generalize holdN W H l j k = hb at *
      cases hb
      · have HV := Lib.hid (HYN.out rfl)
        clear HYN HYY
        generalize openV W H l least j k = ov at *
        go_wp2
        go_roundw
        case rel => exact ⟨k + 1, by omega, by go_num, by rw [HV.out], HX2⟩
        case measure => simp [intOf]; omega
      · by_cases har : least ≤ (ar : Int)
        · obtain ⟨v1, v2⟩ := HYY.out (by rw [decide_eq_true har]; rfl)
          have HV := Lib.hid v1
          clear HYN HYY v1
          generalize openV W H l least j k = ov at *
          have HV2 : Hid (max ov lk = lk) := Int.max_eq_right v2
          clear v2
          go_wp2
          go_roundw
          case rel => exact ⟨k + 1, by omega, by go_num, by rw [HV.out, HV2.out], HX2⟩
          case measure => simp [intOf]; omega
        · have HV := Lib.hid (HYN.out (by rw [decide_eq_false har]; rfl))
          clear HYN HYY
          have hd : decide (least ≤ (ar : Int)) = false := decide_eq_false har
          generalize openV W H l least j k = ov at *
          go_wp2
          go_roundw
          case rel => exact ⟨k + 1, by omega, by go_num, by rw [HV.out], HX2⟩
          case measure => simp [intOf]; omega
    · have hkn : k = n := by omega
      rw [hkn]
      have HXF := Lib.hid (HX0.out.trans HX.out)
      clear HX hkn hlt hk
      go_wp2
      go_ret
      exact ⟨rfl, HXF.out⟩
theorem enters_opA1 : Enters 145 := enters_of Try.func145 (by kernel_rfl) (by kernel_rfl)
set_option maxRecDepth 5000 in
set_option maxHeartbeats 3200000 in
theorem implOpenAreas_any (a : Option Addr) (c : Nat) (A : Nat → Option Addr) (C : Nat → Nat) (m : List (List Int)) (h : Int) (w : World) (hb : MatBnd m) (hm : MatAt w a A C m) :
    Calls Try.prog 57 #[.agg #[.slice a m.length c], .int .i64 h] w (GreyRet2 w (optM (opnO m h) (grl (m.getD 0 []).length m.length (opnL (m.getD 0 []).length m.length m.flatten h))) (opnO m h)) := by
  obtain ⟨W0, hW0⟩ : ∃ W0, W0 = ((w.alloc (.cells #[.slice a m.length c] 26)).alloc (.cells #[.int .i64 h] 2)).alloc (.cells #[.slice none 0 0] 26) := ⟨_, rfl⟩
  have hx0 : w.Ext W0 := by rw [hW0]; repeat (first | exact World.Ext.refl _ | exact ⟨_, rfl⟩ | assumption | refine World.Ext.over ?_ _ | refine World.Ext.drewN ?_ _ | refine World.Ext.drew ?_ | refine World.Ext.alloc ?_ _ | refine World.Ext.setCell ?_ (by simp) _)
  have d0 : W0.cell? ⟨w.heap.size, 0, none⟩ = some (.slice a m.length c) := by rw [hW0]; simp [go_sem]
  have d1 : W0.cell? ⟨w.heap.size + 1, 0, none⟩ = some (.int .i64 h) := by rw [hW0]; simp [go_sem]
  have hone : One W0 (w.heap.size + 1 + 1) 26 (.slice none 0 0) := by rw [hW0]; exact One.new _ _ _ _ (by simp)
  have HI : Hid (Calls Try.prog 75 #[.agg #[.slice a m.length c]] W0 fun e w' => e = .returned (.bool (tableOk m 99)) ∧ W0.Ext w') := validGrey_any a c A C m W0 hb.1 hb.2 (hm.ext hx0) _ rfl
  have HIN : Hid (∀ w', Calls Try.prog 84 #[.int .i64 h, .int .i64 1, .int .i64 256] w' fun e w'' => e = .returned (.bool (inB h 1 256)) ∧ w'.Ext w'') := fun w' => in_any _ _ _ w' _ rfl
  have HX0 := Lib.hid hx0
  have HO := Lib.hid hone
  have HD : Hid (∀ w', W0.Ext w' → w'.cell? ⟨w.heap.size, 0, none⟩ = some (.slice a m.length c) ∧ w'.cell? ⟨w.heap.size + 1, 0, none⟩ = some (.int .i64 h)) := fun w' hx => ⟨hx.cell d0, hx.cell d1⟩
  have hl0 : w.heap.size + 1 + 1 < W0.heap.size := hone.lt
  unfold opnO
  cases hok : tableOk m 99
  · rw [hok] at HI
    clear hb hm hx0 d0 d1 hone hok HIN
    show Calls _ _ _ _ (GreyRet2 w [] false)
    go_enter Try.func57, Try.ntmps57
    go_wp2_with fail
    rw [← hW0]
    refine HI.out.mono ?_
    rintro e w1 ⟨rfl, hx1⟩
    obtain ⟨r1, r2, r3, HR⟩ := Res.storeM (lo := w.heap.size + 3) (.slice none 0 0) (HX0.out.trans hx1) (by omega) (HO.out.ext hx1) (by omega) (OwnMat.none _ _ _ none)
    clear hx1 hW0
    go_wp2
    exact bodyPost_ret (v := .tuple #[.agg #[.slice none 0 0], .bool false]) (by simp [results, Try.results57, go_sem, r3]) rfl (OpRet.no HR.out.1)
  · rw [hok] at HI
    cases hin : inB h 1 256
    · rw [hin] at HIN
      clear hb hm hx0 d0 d1 hone hok hin
      show Calls _ _ _ _ (GreyRet2 w [] false)
      go_enter Try.func57, Try.ntmps57
      go_wp2_with fail
      rw [← hW0]
      refine HI.out.mono ?_
      rintro e w1 ⟨rfl, hx1⟩
      obtain ⟨d0, d1⟩ := HD.out w1 hx1
      go_wp2_with fail
      refine (HIN.out w1).mono ?_
      rintro e w2 ⟨rfl, hx2⟩
      obtain ⟨r1, r2, r3, HR⟩ := Res.storeM (lo := w.heap.size + 3) (.slice none 0 0) (HX0.out.trans (hx1.trans hx2)) (by omega) (HO.out.ext (hx1.trans hx2)) (by omega) (OwnMat.none _ _ _ none)
      clear hx1 hx2 hW0 d0 d1
      go_wp2
      exact bodyPost_ret (v := .tuple #[.agg #[.slice none 0 0], .bool false]) (by simp [results, Try.results57, go_sem, r3]) rfl (OpRet.no HR.out.1)
    · rw [hin] at HIN
      obtain ⟨v1, v2, v3, v4, v5, v6⟩ := tableOk_spec hok
      have hgl := grL_table hok
      have hnn : m.length * (m.getD 0 []).length ≤ 256 := Nat.mul_le_mul v2 v4
      have hnl := nodeL_len hgl
      have hnp := nodeL_pos hgl (p := 0) (Nat.mul_pos v1 v3)
      have HGA : Hid (∀ w', W0.Ext w' → GrAt w' w.heap.size (m.getD 0 []).length m.length m.flatten) := fun w' hx => GrAt.of hok (hx.cell d0) ((hm.ext hx0).ext hx)
      have HNO := Lib.hid (fun w' (hx : W0.Ext w') => nodes_any w.heap.size (m.getD 0 []).length m.length m.flatten w' v3 v1 v4 v2 (HGA.out w' hx) hgl)
      have HRM : Hid (∀ (w' : World) (a3 : Option Addr) (c3 : Nat) (qs : List NdV) (bn : Nat), W0.Ext w' → w'.cell? ⟨bn, 0, none⟩ = some (.slice a3 qs.length c3) → NdsAt w' (m.getD 0 []).length m.length m.flatten a3 qs →
          Calls Try.prog 78 #[.pointer (some ⟨w.heap.size, 0, none⟩), .func (.func 145) #[] #[.pointer (some ⟨bn, 0, none⟩), .pointer (some ⟨w.heap.size + 1, 0, none⟩)]] w' (GreyRet w' (grl (m.getD 0 []).length m.length (opnL (m.getD 0 []).length m.length m.flatten h)))) := fun w' a3 c3 qs bn hx hc hq => by
        refine (HGA.out w' hx).remadeF (by omega) (by omega) (by omega) _ _ _ enters_opA1 fun w'' hx2 j hj => ?_
        rw [opnL_at hj, ← hq.len]
        exact opA1_any bn (w.heap.size + 1) _ _ _ a3 c3 qs h j w'' (by omega) (by omega) hj (hx2.cell hc) (hx2.cell (hx.cell d1)) (hq.ext hx2) (by rw [hq.len]; omega) (by rw [hq.len]; exact hnp)
      have HGL : Hid (∀ l, (grl (m.getD 0 []).length m.length l).length = m.length) := fun l => grl_len _ _ _
      simp only [Bool.true_and]
      clear hb hm hx0 d0 d1 hone hok hin v5 v6 hgl
      show Calls _ _ _ _ (GreyRet2 w (grl (m.getD 0 []).length m.length (opnL (m.getD 0 []).length m.length m.flatten h)) true)
      generalize opnL (m.getD 0 []).length m.length m.flatten h = cl at *
      generalize m.flatten = l at *
      generalize (m.getD 0 []).length = W at *
      generalize m.length = H at *
      go_enter Try.func57, Try.ntmps57
      go_wp2_with fail
      rw [← hW0]
      clear hW0
      refine HI.out.mono ?_
      rintro e w1 ⟨rfl, hx1⟩
      obtain ⟨d0, d1⟩ := HD.out w1 hx1
      go_wp2_with fail
      refine (HIN.out w1).mono ?_
      rintro e w2 ⟨rfl, hx2⟩
      have HX2 := Lib.hid (hx1.trans hx2)
      clear hx1 hx2 d0 d1 HI HIN
      go_wp2_with fail
      refine (HNO.out w2 HX2.out).mono ?_
      rintro e w3 ⟨v, qs, rfl, hx3, ho3, hk3, hp3⟩
      obtain ⟨a3, c3, rfl, -⟩ := World.ownsRow.form ho3
      have HQ : Hid (NdsAt w3 W H l a3 qs) := ⟨GrowN.row ho3, hk3, fun d hd => ⟨(hp3 d hd).1, (hp3 d hd).2.2⟩⟩
      have HX3 := Lib.hid (HX2.out.trans hx3)
      have HR4 := Lib.hid (HRM.out (w3.alloc (.cells #[.slice a3 qs.length c3] 192)) a3 c3 qs w3.heap.size (HX3.out.trans (by repeat (first | exact World.Ext.refl _ | exact ⟨_, rfl⟩ | assumption | refine World.Ext.over ?_ _ | refine World.Ext.drewN ?_ _ | refine World.Ext.drew ?_ | refine World.Ext.alloc ?_ _ | refine World.Ext.setCell ?_ (by simp) _))) (by simp [go_sem]) (HQ.out.ext (by repeat (first | exact World.Ext.refl _ | exact ⟨_, rfl⟩ | assumption | refine World.Ext.over ?_ _ | refine World.Ext.drewN ?_ _ | refine World.Ext.drew ?_ | refine World.Ext.alloc ?_ _ | refine World.Ext.setCell ?_ (by simp) _))))
      have HX4 : Hid (W0.Ext (w3.alloc (.cells #[.slice a3 qs.length c3] 192))) := HX3.out.trans (by repeat (first | exact World.Ext.refl _ | exact ⟨_, rfl⟩ | assumption | refine World.Ext.over ?_ _ | refine World.Ext.drewN ?_ _ | refine World.Ext.drew ?_ | refine World.Ext.alloc ?_ _ | refine World.Ext.setCell ?_ (by simp) _))
      clear ho3 hk3 hp3 hx3 HQ HNO HRM
      generalize qs.length = nq at *
      go_wp2_with fail
      refine HR4.out.mono ?_
      rintro e w5 ⟨a5, c5, A5, C5, rfl, hx5, hm5⟩
      rw [HGL.out]
      have hl5 : w.heap.size + 1 + 1 < (w3.alloc (.cells #[.slice a3 nq c3] 192)).heap.size := Nat.lt_of_lt_of_le HO.out.lt HX4.out.size
      obtain ⟨r1, r2, r3, HR⟩ := Res.storeM (.slice a5 H c5) (HX0.out.trans (HX4.out.trans hx5)) (by omega) (HO.out.ext (HX4.out.trans hx5)) hl5 hm5
      clear hx5 hm5 HR4 hl5
      go_wp2
      exact bodyPost_ret (v := .tuple #[.agg #[.slice a5 H c5], .bool true]) (by simp [results, Try.results57, go_sem, r3]) rfl ⟨a5, c5, A5, C5, by rw [HGL.out], HR.out.1, HR.out.2⟩
end Go.Proofs.Ytmmanehdmnkekaa

/- OpenAreas: the reference's side. -/
namespace Go.Proofs.Ytmmanehdmnkekaa
open Go Go.RowKit
set_option maxRecDepth 5000 in
set_option maxHeartbeats 800000 in
theorem l07List_grow (a : Option Addr) (c : Nat) (A : Nat → Option Addr) (C : Nat → Nat) (m : List (List Int)) (w : World) (hn : m.length ≤ 1048576) (hrow : ∀ r, r < m.length → 0 < (m.getD r []).length) (hsum : m.flatten.length ≤ 1048576) (hm : MatAt w a A C m) :
    Calls Try.prog 164 #[.slice a m.length c] w fun e w' => ∃ v, e = .returned v ∧ w.Ext w' ∧ GrI w.heap.size w' v m.flatten := by
  obtain ⟨i0, hi, hz0, hz1, hz2⟩ := info_parts Try.infoI64'
  have HM := Lib.hid hm
  have HROW := Lib.hid hrow
  have HSUM := Lib.hid hsum
  have hn2 : m.length ≤ 4611686018427387904 := by omega
  have hg0 := GrowOf.empty (f := Value.int .i64) (lo := w.heap.size) (e := 2) w (Nat.le_refl _)
  have hx0 : w.Ext (w.alloc (.cells #[] 2)) := by repeat (first | exact World.Ext.refl _ | exact ⟨_, rfl⟩ | assumption | refine World.Ext.over ?_ _ | refine World.Ext.drewN ?_ _ | refine World.Ext.drew ?_ | refine World.Ext.alloc ?_ _ | refine World.Ext.setCell ?_ (by simp) _)
  have HG0 := Lib.hid hg0
  have HX0 := Lib.hid hx0
  clear hm hrow hsum hn hg0 hx0
  go_enter Try.func164, Try.ntmps164
  go_wp2
  go_loopw [3, 4] (fun v i wr => ∃ k : Nat, k ≤ m.length ∧ i = .int .i64 k ∧ Hid (w.Ext wr) ∧ Hid (GrowOf (Value.int .i64) w.heap.size 2 wr v (m.take k).flatten)) (fun _ i _ => m.length - (intOf i).toNat)
  case atStart => exact ⟨0, Nat.zero_le _, rfl, HX0, HG0⟩
  case round =>
    obtain ⟨k, hk, rfl, HX, HG⟩ := hrel
    by_cases hlt : k < m.length
    · obtain ⟨⟨b, o, rfl, hc⟩, hr⟩ := (HM.out.ext HX.out) k hlt
      have hrp := HROW.out k hlt
      obtain ⟨b2, o2, hA, _⟩ := hr 0 hrp
      rw [hA] at hc hr
      clear hA
      have hlt' : (k : Int) < (m.length : Int) := by omega
      have hk0 : (0 : Int) ≤ (k : Int) := by omega
      have hfs := flat_succ m k hlt
      have hle := flat_take_le m (k + 1)
      rw [hfs, List.length_append] at hle
      have hown := HG.out
      unfold GrowOf at hown
      have hnext : ∀ (v' : Value) (w1 : World), wr.grownBy w1 u3.ownBlock → w1.ownsRow w.heap.size 2 1 v' ((m.take k).flatten.length + (m.getD k []).length) ((m.take k).flatten.map (Value.int .i64) ++ (m.getD k []).map (Value.int .i64)) →
          w.Ext w1 ∧ GrowOf (Value.int .i64) w.heap.size 2 w1 v' (m.take (k + 1)).flatten := fun v' w1 hgrow hown' => by
        refine ⟨HG.out.pushesExt HX.out hgrow, ?_⟩
        rw [hfs]
        exact GrowOf.pushes hown'
      have hb1 : (m.take k).flatten.length + (m.getD k []).length ≤ maxLen := by unfold maxLen; have := HSUM.out; omega
      have hb2 : ((m.take k).flatten.length + (m.getD k []).length) * 8 ≤ 140737488355328 := by have := HSUM.out; omega
      have HNEXT := Lib.hid hnext
      have HB1 := Lib.hid hb1
      have HB2 := Lib.hid hb2
      have HLE := Lib.hid HX.out.size
      have HNEWS := Lib.hid (RowOf.news hr)
      clear hnext hb1 hb2 hfs hle hr
      generalize m.getD k [] = q at *
      have HLQ : Hid ((q.map (Value.int .i64)).length = q.length * 1) := by show _ = _; simp
      go_wp2_with (at_builtin; refine wpList_append_own _ rfl _ _ 28 rfl w.heap.size 2 i0 (.int .i64 0) 1 8 Try.underlying28 hi hz0 hz1 hz2 rfl (by decide) _ _ _ rfl hown ⟨b2, o2, none⟩ q.length _ (q.map (Value.int .i64)) rfl HLQ.out HNEWS.out (by intro u hu; obtain ⟨z, _, rfl⟩ := List.mem_map.1 hu; rfl) HB1.out HB2.out HLE.out (fun v' w1 hown' hgrow _ => ?_); obtain ⟨hx1, hg1⟩ := HNEXT.out _ _ hgrow hown'; have HX1 := Lib.hid hx1; have HG1 := Lib.hid hg1; clear hx1 hg1 hown' hgrow hown)
      go_roundw
      case rel => exact ⟨k + 1, by omega, by go_num, HX1, HG1⟩
      case measure => simp [intOf]; omega
    · have : k = m.length := by omega
      subst this
      have hg1 := HG.out
      rw [List.take_length] at hg1
      go_wp2
      go_ret
      exact ⟨_, rfl, HX.out, hg1⟩
theorem grl_flattenO {W H : Nat} {l : List Int} (hW : 0 < W) (hl : l.length = H * W) : (grl W H l).flatten = l := by
  have hr : ∀ r, r < (grl W H l).length → ((grl W H l).getD r []).length = W := fun r h => by rw [grl_len] at h; exact grl_row h
  have hfl := flat_len W (grl W H l) hr
  rw [grl_len] at hfl
  apply List.ext_getElem?
  intro k
  by_cases hk : k < H * W
  · have e2 : ∀ (m : List Int), k < m.length → m[k]? = some (m.getD k 0) := fun m hm => by rw [List.getD_eq_getElem?_getD, List.getElem?_eq_getElem hm]; rfl
    have hx : k % W < W := Nat.mod_lt _ hW
    have hy : k / W < H := by rw [Nat.div_lt_iff_lt_mul hW]; exact hk
    have he : k / W * W + k % W = k := by rw [Nat.mul_comm]; exact Nat.div_add_mod _ _
    have h := flat_at W (grl W H l) _ _ hr (by rw [grl_len]; exact hy) hx
    rw [he, grl_at hx hy, he] at h
    rw [e2 _ (by rw [hfl, Nat.mul_comm]; exact hk), e2 _ (by rw [hl]; exact hk), h]
  · rw [List.getElem?_eq_none (by rw [hfl, Nat.mul_comm]; omega), List.getElem?_eq_none (by omega)]
/-- A list under way: the first k are new. -/
def mixO (n : Nat) (f g : Nat → Int) (k : Nat) : List Int := (List.range n).map fun j => if j < k then f j else g j
section
variable {n k : Nat} {f g : Nat → Int}
theorem mixO_len : (mixO n f g k).length = n := by simp [mixO]
theorem mixO_at {j : Nat} (hj : j < n) : (mixO n f g k).getD j 0 = if j < k then f j else g j := by
  unfold mixO
  rw [List.getD_eq_getElem?_getD, List.getElem?_map, List.getElem?_range hj]
  rfl
theorem mixO_set (_ : k < n) : (mixO n f g k).set k (f k) = mixO n f g (k + 1) := by
  apply List.ext_getElem?
  intro j
  rw [List.getElem?_set, mixO_len]
  by_cases hj : j < n
  · unfold mixO
    rw [List.getElem?_map, List.getElem?_map, List.getElem?_range hj]
    simp only [Option.map_some]
    by_cases e : k = j
    · subst e
      rw [if_pos rfl, if_pos hj, if_pos (by omega)]
    · rw [if_neg e]
      by_cases hc : j < k
      · rw [if_pos hc, if_pos (by omega)]
      · rw [if_neg hc, if_neg (by omega)]
  · rw [List.getElem?_eq_none (by rw [mixO_len]; omega), List.getElem?_eq_none (by rw [mixO_len]; omega)]
    by_cases e : k = j
    · omega
    · rw [if_neg e]
end
set_option maxRecDepth 5000 in
set_option maxHeartbeats 3200000 in
theorem specOpenAreas_any (a : Option Addr) (c : Nat) (A : Nat → Option Addr) (C : Nat → Nat) (m : List (List Int)) (h : Int) (w : World) (hb : MatBnd m) (hm : MatAt w a A C m) :
    Calls Try.prog 63 #[.agg #[.slice a m.length c], .int .i64 h] w (GreyRet2 w (optM (opnO m h) (grl (m.getD 0 []).length m.length (opnL (m.getD 0 []).length m.length m.flatten h))) (opnO m h)) := by
  obtain ⟨W0, hW0⟩ : ∃ W0, W0 = (w.alloc (.cells #[.slice a m.length c] 26)).alloc (.cells #[.slice none 0 0] 26) := ⟨_, rfl⟩
  have hx0 : w.Ext W0 := by rw [hW0]; repeat (first | exact World.Ext.refl _ | exact ⟨_, rfl⟩ | assumption | refine World.Ext.over ?_ _ | refine World.Ext.drewN ?_ _ | refine World.Ext.drew ?_ | refine World.Ext.alloc ?_ _ | refine World.Ext.setCell ?_ (by simp) _)
  have d0 : W0.cell? ⟨w.heap.size, 0, none⟩ = some (.slice a m.length c) := by rw [hW0]; simp [go_sem]
  have hone : One W0 (w.heap.size + 1) 26 (.slice none 0 0) := by rw [hW0]; exact One.new _ _ _ _ (by simp)
  have HI : Hid (Calls Try.prog 161 #[.pointer (some ⟨w.heap.size, 0, none⟩)] W0 fun e w' => e = .returned (.bool (tableOk m 99)) ∧ W0.Ext w') := l07Is_any _ a c A C m W0 hb.1 hb.2 d0 (hm.ext hx0) _ rfl
  have HIN : Hid (∀ w', Calls Try.prog 162 #[.int .i64 h, .int .i64 1, .int .i64 256] w' fun e w'' => e = .returned (.bool (inB h 1 256)) ∧ w'.Ext w'') := fun w' => l00In_any _ _ _ w' _ rfl
  have HX0 := Lib.hid hx0
  have HO := Lib.hid hone
  unfold opnO
  cases hok : tableOk m 99
  · rw [hok] at HI
    clear hb hm hx0 d0 hone hok HIN
    show Calls _ _ _ _ (GreyRet2 w [] false)
    go_enter Try.func63, Try.ntmps63
    go_wp2_with fail
    rw [← hW0]
    refine HI.out.mono ?_
    rintro e w1 ⟨rfl, hx1⟩
    obtain ⟨r1, r2, r3, HR⟩ := Res.storeM (lo := w.heap.size + 2) (.slice none 0 0) (HX0.out.trans hx1) (by omega) (HO.out.ext hx1) (by omega) (OwnMat.none _ _ _ none)
    clear hx1 hW0
    go_wp2
    exact bodyPost_ret (v := .tuple #[.agg #[.slice none 0 0], .bool false]) (by simp [results, Try.results63, go_sem, r3]) rfl (OpRet.no HR.out.1)
  · rw [hok] at HI
    cases hin : inB h 1 256
    · rw [hin] at HIN
      clear hb hm hx0 d0 hone hok hin
      show Calls _ _ _ _ (GreyRet2 w [] false)
      go_enter Try.func63, Try.ntmps63
      go_wp2_with fail
      rw [← hW0]
      refine HI.out.mono ?_
      rintro e w1 ⟨rfl, hx1⟩
      go_wp2_with fail
      refine (HIN.out w1).mono ?_
      rintro e w2 ⟨rfl, hx2⟩
      obtain ⟨r1, r2, r3, HR⟩ := Res.storeM (lo := w.heap.size + 2) (.slice none 0 0) (HX0.out.trans (hx1.trans hx2)) (by omega) (HO.out.ext (hx1.trans hx2)) (by omega) (OwnMat.none _ _ _ none)
      clear hx1 hx2 hW0
      go_wp2
      exact bodyPost_ret (v := .tuple #[.agg #[.slice none 0 0], .bool false]) (by simp [results, Try.results63, go_sem, r3]) rfl (OpRet.no HR.out.1)
    · rw [hin] at HIN
      obtain ⟨v1, v2, v3, v4, v5, v6⟩ := tableOk_spec hok
      have hgl := grL_table hok
      have hnn : m.length * (m.getD 0 []).length ≤ 256 := Nat.mul_le_mul v2 v4
      have hpos : 0 < m.length * (m.getD 0 []).length := Nat.mul_pos v1 v3
      have HTR := Lib.hid (fun w' (hx : W0.Ext w') => l07Tree_any w.heap.size a c A C m w' hok (hx.cell d0) ((hm.ext hx0).ext hx))
      have HWD := Lib.hid (fun w' (hx : W0.Ext w') => l07Width_any w.heap.size a c A C m w' (by omega) (hx.cell d0) ((hm.ext hx0).ext hx))
      have HH1 := Lib.hid (And.intro v1 (And.intro v2 (And.intro v3 v4)))
      have HGR : Hid (∀ l, (grl (m.getD 0 []).length m.length l).length = m.length) := fun l => grl_len _ _ _
      have HLI : Hid (∀ (w' : World) (a4 : Option Addr) (c4 : Nat) (A4 : Nat → Option Addr) (C4 : Nat → Nat), MatAt w' a4 A4 C4 (grl (m.getD 0 []).length m.length (nodT (m.getD 0 []).length m.length m.flatten (nodeL (m.getD 0 []).length m.length m.flatten))) →
          Calls Try.prog 164 #[.slice a4 m.length c4] w' fun e w'' => ∃ v, e = .returned v ∧ w'.Ext w'' ∧ GrI w'.heap.size w'' v (nodT (m.getD 0 []).length m.length m.flatten (nodeL (m.getD 0 []).length m.length m.flatten))) := fun w' a4 c4 A4 C4 h4 => by
        have hf := grl_flattenO (W := (m.getD 0 []).length) (H := m.length) (l := nodT (m.getD 0 []).length m.length m.flatten (nodeL (m.getD 0 []).length m.length m.flatten)) (by omega) nodT_len
        have h := l07List_grow a4 c4 A4 C4 _ w' (by rw [grl_len]; omega) (fun r hr => by rw [grl_len] at hr; rw [grl_row hr]; omega) (by rw [hf, nodT_len]; omega) h4
        rw [hf, grl_len] at h
        exact h
      obtain ⟨n, hn⟩ : ∃ n, n = m.length * (m.getD 0 []).length := ⟨_, rfl⟩
      have HN := Lib.hid hn
      have HGL := Lib.hid hgl
      rw [← hn] at hnn hpos
      simp only [Bool.true_and]
      clear hb hm hx0 d0 hone hok hin v1 v2 v3 v4 v5 v6 hgl hn
      show Calls _ _ _ _ (GreyRet2 w (grl (m.getD 0 []).length m.length (opnL (m.getD 0 []).length m.length m.flatten h)) true)
      generalize m.flatten = l at *
      generalize (m.getD 0 []).length = W at *
      generalize m.length = H at *
      go_enter Try.func63, Try.ntmps63
      go_wp2_with fail
      rw [← hW0]
      clear hW0
      refine HI.out.mono ?_
      rintro e w1 ⟨rfl, hx1⟩
      go_wp2_with fail
      refine (HIN.out w1).mono ?_
      rintro e w2 ⟨rfl, hx2⟩
      have HX2 := Lib.hid (hx1.trans hx2)
      clear hx1 hx2 HI HIN
      go_wp2_with fail
      refine (HTR.out w2 HX2.out).mono ?_
      rintro e w3 ⟨a1, a2, a3, a4, c1, c2, c3, c4, A4, C4, rfl, hx3, ho3⟩
      unfold gtV gtR
      dsimp only
      rw [levT_len, parT_len, areT_len, HGR.out]
      have HX3 := Lib.hid (HX2.out.trans hx3)
      have hx4 : w3.Ext (w3.alloc (.cells #[.slice a1 (nodeL W H l).length c1, .slice a2 (nodeL W H l).length c2, .slice a3 (nodeL W H l).length c3, .slice a4 H c4] 30)) := by repeat (first | exact World.Ext.refl _ | exact ⟨_, rfl⟩ | assumption | refine World.Ext.over ?_ _ | refine World.Ext.drewN ?_ _ | refine World.Ext.drew ?_ | refine World.Ext.alloc ?_ _ | refine World.Ext.setCell ?_ (by simp) _)
      obtain ⟨ra1, ra2, ra3, ra4⟩ := ho3.row.ext hx4
      have HR1 := Lib.hid (show RowI _ a1 (levT (nodeL W H l)) from ra1)
      have HR2 := Lib.hid (show RowI _ a2 (parT W H l (nodeL W H l)) from ra2)
      have HR3 := Lib.hid (show RowI _ a3 (areT W H l (nodeL W H l)) from ra3)
      have HR4 := Lib.hid (HLI.out _ a4 c4 A4 C4 ra4)
      have HQ4 := Lib.hid (Qua.new w3 (.slice a1 (nodeL W H l).length c1) (.slice a2 (nodeL W H l).length c2) (.slice a3 (nodeL W H l).length c3) (.slice a4 H c4) 30 w3.heap.size rfl)
      have HX4 := Lib.hid (HX3.out.trans hx4)
      obtain ⟨N, hN⟩ : ∃ N, N = (nodeL W H l).length := ⟨_, rfl⟩
      have HNN := Lib.hid hN
      have hnp : N ≤ 256 := by have := nodeL_len HGL.out; rw [← HN.out] at this; omega
      rw [← hN]
      rw [← hN] at HR1 HR2 HR3 HR4 HQ4 HX4
      clear hx3 ho3 HTR HLI ra1 ra2 ra3 ra4 hx4 hN
      go_wp2_with fail
      obtain ⟨W4, hW4⟩ : ∃ W4, W4 = w3.alloc (.cells #[.slice a1 N c1, .slice a2 N c2, .slice a3 N c3, .slice a4 H c4] 30) := ⟨_, rfl⟩
      rw [← hW4] at HR1 HR2 HR3 HR4 HQ4 HX4
      rw [← hW4]
      clear hW4
      have hnp0 : 0 < N := by rw [HNN.out]; exact nodeL_pos HGL.out (p := 0) (by rw [← HN.out]; exact hpos)
      obtain ⟨b1, o1, rfl, -⟩ := HR1.out 0 (by rw [levT_len, ← HNN.out]; exact hnp0)
      obtain ⟨b2, o2, rfl, -⟩ := HR2.out 0 (by rw [parT_len, ← HNN.out]; exact hnp0)
      obtain ⟨b3, o3, rfl, -⟩ := HR3.out 0 (by rw [areT_len, ← HNN.out]; exact hnp0)
      refine HR4.out.mono ?_
      rintro e w5 ⟨v, rfl, hx5, hg5⟩
      obtain ⟨g7, c7, rfl, hg71, hg72, hc7⟩ := grI_getD hg5 (by rw [nodT_len, ← HN.out]; exact hpos)
      rw [nodT_len, ← HN.out] at hg5 hc7
      rw [nodT_len, ← HN.out]
      obtain ⟨F, hF⟩ : ∃ F : Nat → Int, F = fun j => openV W H l h j (nodeL W H l).length := ⟨_, rfl⟩
      obtain ⟨G, hG⟩ : ∃ G : Nat → Int, G = lastIn W H l (nodeL W H l) := ⟨_, rfl⟩
      have HFF := Lib.hid hF
      have HGG := Lib.hid hG
      have HS0 : Hid (Wrote (fun b => b = g7) w5 w5 ∧ GrI W4.heap.size w5 (.slice (some ⟨g7, 0, none⟩) n c7) (mixO n F G 0)) := by
        refine ⟨Wrote.refl _ _, ?_⟩
        have e : mixO n F G 0 = nodT W H l (nodeL W H l) := by
          unfold mixO nodT
          rw [HN.out, hG]
          exact List.map_congr_left fun j _ => if_neg (by omega)
        rw [e]
        exact hg5
      -- what stays
      have HKP : Hid (∀ wr, Wrote (fun b => b = g7) w5 wr → W0.Ext wr ∧ Qua wr w3.heap.size 30 (.slice (some ⟨b1, o1, none⟩) N c1) (.slice (some ⟨b2, o2, none⟩) N c2) (.slice (some ⟨b3, o3, none⟩) N c3) (.slice a4 H c4) ∧
          RowI wr (some ⟨b1, o1, none⟩) (levT (nodeL W H l)) ∧ RowI wr (some ⟨b2, o2, none⟩) (parT W H l (nodeL W H l)) ∧ RowI wr (some ⟨b3, o3, none⟩) (areT W H l (nodeL W H l))) := fun wr hw => by
        have hX : W4.Ext wr := hx5.wroteNew hw fun k hk hs => by omega
        exact ⟨HX4.out.trans hX, HQ4.out.ext hX, RowI.ext HR1.out hX, RowI.ext HR2.out hX, RowI.ext HR3.out hX⟩
      have HSZ : Hid (w.heap.size + 1 < W4.heap.size ∧ w3.heap.size < W4.heap.size) := ⟨by have h1 := HO.out.lt; have h2 := HX4.out.size; omega, HQ4.out.lt⟩
      clear hF hG hg5 hg71 hg72 HR1 HR2 HR3 HR4 HQ4 HX4 HX2 HX3 hx5
      have HGET : Hid (∀ q, q < N → (levT (nodeL W H l)).getD q 0 = (((nodeL W H l).getD q (0, 0)).1 : Int) ∧ (parT W H l (nodeL W H l)).getD q 0 = parN W H l ((nodeL W H l).getD q (0, 0)) ∧ (areT W H l (nodeL W H l)).getD q 0 = (arN W H l ((nodeL W H l).getD q (0, 0)) : Int)) := fun q hq => by
        have hq2 : q < (nodeL W H l).length := by rw [← HNN.out]; exact hq
        refine ⟨?_, ?_, ?_⟩
        · unfold levT; rw [List.getD_eq_getElem?_getD, List.getElem?_map, List.getD_eq_getElem?_getD, List.getElem?_eq_getElem hq2]; rfl
        · unfold parT; rw [List.getD_eq_getElem?_getD, List.getElem?_map, List.getD_eq_getElem?_getD, List.getElem?_eq_getElem hq2]; rfl
        · unfold areT; rw [List.getD_eq_getElem?_getD, List.getElem?_map, List.getD_eq_getElem?_getD, List.getElem?_eq_getElem hq2]; rfl
      go_wp2_with fail
      go_loopw [8, 9, 24] (fun _ _ i wr => ∃ k : Nat, k ≤ n ∧ i = .int .i64 k ∧ Hid (Wrote (fun b => b = g7) w5 wr ∧ GrI W4.heap.size wr (.slice (some ⟨g7, 0, none⟩) n c7) (mixO n F G k))) (fun _ _ i _ => n - (intOf i).toNat)
      case atStart => exact ⟨0, Nat.zero_le _, rfl, HS0⟩
      case round =>
        clear HS0
        obtain ⟨k, hk, rfl, HS⟩ := hrel
        obtain ⟨wo, rfl⟩ : ∃ wo : World, wo = wr := ⟨_, rfl⟩
        by_cases hlt : k < n
        · have hlt' : (k : Int) < (n : Int) := by omega
          have hk0 : (0 : Int) ≤ (k : Int) := by omega
          have hkh : k < H * W := by rw [← HN.out]; exact hlt
          obtain ⟨-, c0, cf, hset⟩ := grI_at HS.out.2 (i := k) (by rw [mixO_len]; exact hlt)
          rw [mixO_at hlt, if_neg (Nat.lt_irrefl _)] at c0
          obtain ⟨q0, hq0, hG0, -, hq1, -⟩ := node_of HGL.out hkh
          rw [← HNN.out] at hq0
          rw [show G k = (q0 : Int) by rw [HGG.out]; exact hG0] at c0
          have HST : Hid (GrI W4.heap.size (wo.setCell ⟨g7, k, none⟩ (.int .i64 (openV W H l h k N))) (.slice (some ⟨g7, 0, none⟩) n c7) (mixO n F G (k + 1)) ∧ Wrote (fun b => b = g7) w5 (wo.setCell ⟨g7, k, none⟩ (.int .i64 (openV W H l h k N)))) := by
            have e : openV W H l h k N = F k := by rw [HFF.out, HNN.out]
            rw [e, ← mixO_set hlt]
            exact ⟨hset _, HS.out.1.setCell (p := ⟨g7, k, none⟩) rfl _⟩
          have HCL0 : Hid (holdN W H l k q0 = true ∧ ∀ j, q0 < j → j < N → holdN W H l k j = true → (arN W H l ((nodeL W H l).getD j (0, 0)) : Int) < h) := by
            refine ⟨hq1, fun j hj1 hj2 hj3 => ?_⟩
            exfalso
            have := lastW_spec (holdN W H l k) (nodeL W H l).length
            rcases this with ⟨z1, z2⟩ | ⟨j2, z1, z2, z3, z4⟩
            · rw [z2 j (by rw [← HNN.out]; exact hj2)] at hj3; cases hj3
            · have e : (q0 : Int) = (j2 : Int) := by rw [← hG0, ← z2]; rfl
              have e2 : q0 = j2 := by omega
              rw [z4 j (by omega) (by rw [← HNN.out]; exact hj2)] at hj3; cases hj3
          have HEND : Hid (∀ q, q < N → holdN W H l k q = true → (∀ j, q < j → j < N → holdN W H l k j = true → (arN W H l ((nodeL W H l).getD j (0, 0)) : Int) < h) → (h ≤ (arN W H l ((nodeL W H l).getD q (0, 0)) : Int) ∨ parN W H l ((nodeL W H l).getD q (0, 0)) < 0) → openV W H l h k N = (((nodeL W H l).getD q (0, 0)).1 : Int)) := fun q z1 z2 z3 z4 => by
            rw [HNN.out] at z1 z3 ⊢
            exact openV_end HGL.out hkh z1 z2 z3 z4
          have HCS : Hid (∀ q, q < N → holdN W H l k q = true → (∀ j, q < j → j < N → holdN W H l k j = true → (arN W H l ((nodeL W H l).getD j (0, 0)) : Int) < h) → (arN W H l ((nodeL W H l).getD q (0, 0)) : Int) < h → 0 ≤ parN W H l ((nodeL W H l).getD q (0, 0)) →
              ∃ j : Nat, j < q ∧ parN W H l ((nodeL W H l).getD q (0, 0)) = (j : Int) ∧ holdN W H l k j = true ∧ ∀ i, j < i → i < N → holdN W H l k i = true → (arN W H l ((nodeL W H l).getD i (0, 0)) : Int) < h) := fun q z1 z2 z3 z4 z5 => by
            rw [HNN.out] at z1 z3 ⊢
            exact climb_step hkh z1 z2 z3 z4 z5
          obtain ⟨-, hqu, hr1, hr2, hr3⟩ := HKP.out wo HS.out.1
          have HR1 := Lib.hid hr1
          have HR2 := Lib.hid hr2
          have HR3 := Lib.hid hr3
          have u0 := hqu.cell0
          have u1 := hqu.cell1
          have u2 := hqu.cell2
          clear hqu hr1 hr2 hr3 hset HS hG0 hq1 hkh
          go_wp2_with fail
          go_loop [9] (fun t => ∃ q : Nat, q < N ∧ t = .int .i64 q ∧ Hid (holdN W H l k q = true ∧ ∀ j, q < j → j < N → holdN W H l k j = true → (arN W H l ((nodeL W H l).getD j (0, 0)) : Int) < h)) (fun t => (intOf t).toNat)
          case atStart => exact ⟨q0, hq0, rfl, HCL0⟩
          case round =>
            clear HCL0
            obtain ⟨q, hq, rfl, HC⟩ := hrel
            have hq' : (q : Int) < (N : Int) := by omega
            have hqz : (0 : Int) ≤ (q : Int) := by omega
            obtain ⟨g1, g2, g3⟩ := HGET.out q hq
            obtain ⟨_, _, e, x1⟩ := HR1.out q (by rw [levT_len, ← HNN.out]; exact hq)
            cases e
            obtain ⟨_, _, e, x2⟩ := HR2.out q (by rw [parT_len, ← HNN.out]; exact hq)
            cases e
            obtain ⟨_, _, e, x3⟩ := HR3.out q (by rw [areT_len, ← HNN.out]; exact hq)
            cases e
            rw [g1] at x1
            rw [g2] at x2
            rw [g3] at x3
            have hE := HEND.out q hq HC.out.1 HC.out.2
            have hS := HCS.out q hq HC.out.1 HC.out.2
            have HE := Lib.hid hE
            have HSS := Lib.hid hS
            clear g1 g2 g3 hE hS HC
            generalize arN W H l ((nodeL W H l).getD q (0, 0)) = ar at *
            generalize parN W H l ((nodeL W H l).getD q (0, 0)) = pa at *
            generalize ((nodeL W H l).getD q (0, 0)).1 = le at *
            by_cases har : (ar : Int) < h
            · by_cases hpa : 0 ≤ pa
              · obtain ⟨j, hj1, rfl, hj3⟩ := HSS.out har hpa
                have HC2 := Lib.hid hj3
                clear hj3 HE HSS
                go_wp2
                go_round
                case rel => exact ⟨j, by omega, rfl, HC2⟩
                case measure => simp [intOf]; omega
              · have HV := Lib.hid (HE.out (.inr (by omega)))
                rw [HV.out] at HST
                clear HE HSS HV
                go_wp2
                go_roundw
                case rel => exact ⟨k + 1, by omega, by go_num, HST.out.2, HST.out.1⟩
                case measure => simp [intOf]; omega
            · have HV := Lib.hid (HE.out (.inl (by omega)))
              rw [HV.out] at HST
              clear HE HSS HV
              have hda : decide ((ar : Int) < h) = false := decide_eq_false har
              go_wp2
              go_roundw
              case rel => exact ⟨k + 1, by omega, by go_num, HST.out.2, HST.out.1⟩
              case measure => simp [intOf]; omega
        · have hkn : k = n := by omega
          obtain ⟨hxo, -, -, -, -⟩ := HKP.out wo HS.out.1
          have HXO := Lib.hid hxo
          have hml : mixO n F G k = opnL W H l h := by
            unfold mixO opnL
            rw [hkn, HN.out, HFF.out]
            exact List.map_congr_left fun j hj => if_pos (List.mem_range.1 hj)
          have HGI : Hid (GrI W4.heap.size wo (.slice (some ⟨g7, 0, none⟩) n c7) (opnL W H l h)) := by rw [← hml]; exact HS.out.2
          have HRW : Hid (∀ w', wo.Ext w' → Calls Try.prog 165 #[.int .i64 W, .slice (some ⟨g7, 0, none⟩) n c7] w' (MatRet w' (grl W H (opnL W H l h)))) := fun w' hx => by
            obtain ⟨q1, q2, q3, q4⟩ := HH1.out
            have hh := l07Rows_any g7 0 c7 W H (opnL W H l h) w' q3 (by omega) (by omega) (opnL_len _ _ _ _) (by rw [opnL_len, ← HN.out]; exact hc7) (RowI.ext (show RowI wo (some ⟨g7, 0, none⟩) _ from (GrowOf.own 0 HGI.out).row) hx)
            rw [opnL_len, ← HN.out] at hh
            exact hh
          have HWO : Hid (W4.heap.size ≤ wo.heap.size) := Nat.le_of_lt (Nat.lt_of_le_of_lt (GrI.lt HGI.out rfl).1 (GrI.lt HGI.out rfl).2)
          have hnl : ¬ (k : Int) < (n : Int) := by omega
          clear hxo HS hml hkn
          go_wp2_with fail
          refine (HWD.out wo HXO.out).mono ?_
          rintro e w7 ⟨rfl, hx7⟩
          go_wp2_with fail
          refine (HRW.out w7 hx7).mono ?_
          rintro e w9 ⟨a9, c9, A9, C9, rfl, hx9, hm9⟩
          rw [HGR.out]
          have hl9 : w.heap.size + 1 < w7.heap.size := by have h1 := HSZ.out; have h2 := HWO.out; have h3 := hx7.size; omega
          obtain ⟨r1, r2, r3, HR⟩ := Res.storeM (.slice a9 H c9) (HX0.out.trans (HXO.out.trans (hx7.trans hx9))) (by omega) (HO.out.ext (HXO.out.trans (hx7.trans hx9))) hl9 (hm9.mat (by decide))
          clear hx7 hx9 hm9
          go_wp2
          exact bodyPost_ret (v := .tuple #[.agg #[.slice a9 H c9], .bool true]) (by simp [results, Try.results63, go_sem, r3]) rfl ⟨a9, c9, A9, C9, by rw [HGR.out], HR.out.1, HR.out.2⟩
end Go.Proofs.Ytmmanehdmnkekaa
