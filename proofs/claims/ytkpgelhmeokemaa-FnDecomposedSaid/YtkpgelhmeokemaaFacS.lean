/- The reference's sum of elements. -/
import Derived.Test.YtkpgelhmeokemaaFacI
namespace Go.Proofs.Ytkpgelhmeokemaa
open Go Go.RowKit
/-- An element of the call's own in a box, under way. -/
structure SuSt (W0 : World) (q g cap : Nat) (ps : List (Int × Int)) (wr : World) : Prop where
  x : W0.Ext wr
  cell : One wr q 48 (.slice (some ⟨g, 0, none⟩) ps.length cap)
  lo : W0.heap.size ≤ q
  row : GrowP W0.heap.size 45 wr (.slice (some ⟨g, 0, none⟩) ps.length cap) ps
theorem SuSt.ext {W0 : World} {q g cap : Nat} {ps : List (Int × Int)} {wr w' : World} (h : SuSt W0 q g cap ps wr) (hx : wr.Ext w') : SuSt W0 q g cap ps w' := ⟨h.x.trans hx, h.cell.ext hx, h.lo, h.row.ext hx⟩
theorem SuSt.put {W0 : World} {q g cap g' cap' : Nat} {ps qs : List (Int × Int)} {wr w' : World} (h : SuSt W0 q g cap ps wr) (hg : GrowP W0.heap.size 45 w' (.slice (some ⟨g', 0, none⟩) qs.length cap') qs) (hw : Wrote (fun k => k = g) wr w') :
    w'.cell? ⟨q, 0, none⟩ = some (.slice (some ⟨g, 0, none⟩) ps.length cap) ∧ w'.frozen? ⟨q, 0, none⟩ = false ∧ Hid (SuSt W0 q g' cap' qs (w'.setCell ⟨q, 0, none⟩ (.slice (some ⟨g', 0, none⟩) qs.length cap'))) := by
  have hl := (World.ownsRow.blockLt h.row).1
  have hq : q ≠ g := fun e => World.ownsRow.ne h.row h.cell (by decide) (by rw [e]; rfl)
  have hone := h.cell.keep (hw.block _ h.cell.lt hq)
  have hx : W0.Ext w' := h.x.wroteNew hw fun k hk hs => by omega
  have n4 : some q ≠ (Value.slice (some ⟨g', 0, none⟩) qs.length cap').ownBlock := World.ownsRow.ne hg hone (by decide)
  exact ⟨hone.cell, hone.free, hx.setCell (p := ⟨q, 0, none⟩) h.lo _, hone.set _, h.lo, GrowP.setCell hg n4 _⟩
set_option maxRecDepth 5000 in
set_option maxHeartbeats 1600000 in
theorem l03Sum_any (p : Nat) (a : Option Addr) (c : Nat) (xs : List (Int × Int)) (p2 : Nat) (a2 : Option Addr) (c2 : Nat) (ys : List (Int × Int)) (w : World) (hnx : xs.length ≤ 4) (hny : ys.length ≤ 4 ∨ xs.length ≤ 2 ∧ ys.length ≤ 16)
    (hbx : ∀ q, q ∈ xs → offOk q = true) (hby : ∀ q, q ∈ ys → offOk q = true) (hp : w.cell? ⟨p, 0, none⟩ = some (.slice a xs.length c)) (hp2 : w.cell? ⟨p2, 0, none⟩ = some (.slice a2 ys.length c2)) (hm : RowP w a xs) (hm2 : RowP w a2 ys) :
    Calls Try.prog 64 #[.pointer (some ⟨p, 0, none⟩), .pointer (some ⟨p2, 0, none⟩)] w (ElOwn w (sumL xs ys)) := by
  have hprod : xs.length * ys.length ≤ 50 := by
    rcases hny with h | ⟨h1, h2⟩
    · exact Nat.le_trans (Nat.mul_le_mul hnx h) (by omega)
    · exact Nat.le_trans (Nat.mul_le_mul h1 h2) (by omega)
  obtain ⟨W0, hW0⟩ : ∃ W0, W0 = w.alloc (.cells #[.slice none 0 0] 48) := ⟨_, rfl⟩
  have hx0 : w.Ext W0 := by rw [hW0]; repeat (first | exact World.Ext.refl _ | exact ⟨_, rfl⟩ | assumption | refine World.Ext.over ?_ _ | refine World.Ext.drewN ?_ _ | refine World.Ext.drew ?_ | refine World.Ext.alloc ?_ _ | refine World.Ext.setCell ?_ (by simp) _)
  have hone : One W0 w.heap.size 48 (.slice none 0 0) := by rw [hW0]; exact One.new _ _ _ _ rfl
  have HX0 := Lib.hid hx0
  have HO := Lib.hid hone
  have HL0 : w.heap.size < W0.heap.size := hone.lt
  have HC : Hid (∀ w', W0.Ext w' → w'.cell? ⟨p, 0, none⟩ = some (.slice a xs.length c) ∧ w'.cell? ⟨p2, 0, none⟩ = some (.slice a2 ys.length c2)) := fun w' h => ⟨(hx0.trans h).cell hp, (hx0.trans h).cell hp2⟩
  have HMX : Hid (∀ w', W0.Ext w' → RowP w' a xs) := fun w' h => (RowP.ext (RowP.ext hm hx0) h)
  have HMY : Hid (∀ w', W0.Ext w' → RowP w' a2 ys) := fun w' h => (RowP.ext (RowP.ext hm2 hx0) h)
  have HBX : Hid (∀ k, k < xs.length → -4 ≤ (xs.getD k (0, 0)).1 ∧ (xs.getD k (0, 0)).1 ≤ 4 ∧ -4 ≤ (xs.getD k (0, 0)).2 ∧ (xs.getD k (0, 0)).2 ≤ 4) := fun k hk => by have := offOk_iff.1 (hbx _ (getD_mem hk)); omega
  have HBY : Hid (∀ k, k < ys.length → -4 ≤ (ys.getD k (0, 0)).1 ∧ (ys.getD k (0, 0)).1 ≤ 4 ∧ -4 ≤ (ys.getD k (0, 0)).2 ∧ (ys.getD k (0, 0)).2 ≤ 4) := fun k hk => by have := offOk_iff.1 (hby _ (getD_mem hk)); omega
  have HTX := Lib.hid (fun i (hi : i < xs.length) => sumP_take (b := ys) hi)
  have HLX : Hid (∀ i j x y, i < xs.length → j < ys.length → (setL (sumP (xs.take i) ys ++ (ys.take j).map (fun q => (x + q.1, y + q.2)))).length ≤ 50) := fun i j x y hi hj => by
    refine Nat.le_trans (setL_len _) ?_
    rw [List.length_append, List.length_map, List.length_take, sumP_len, List.length_take]
    have h1 : (i + 1) * ys.length ≤ xs.length * ys.length := Nat.mul_le_mul_right _ (by omega)
    rw [Nat.succ_mul] at h1
    have h2 : min i xs.length = i := by omega
    rw [h2]
    omega
  have HPUT := Lib.hid (fun g cap ps ox oy w' hn hlo hg => l03Put_any W0.heap.size g cap ps ox oy w' hn hlo hg)
  have hxl : xs.length ≤ 4 := hnx
  have hyl : ys.length ≤ 16 := by omega
  clear hx0 hone hm hm2 hbx hby hp hp2 hprod hnx hny
  go_enter Try.func64, Try.ntmps64
  go_upto_region 1 with fail
  rw [← hW0]
  clear hW0
  obtain ⟨w1, hw1⟩ : ∃ w1, w1 = (W0.alloc (.cells #[] 45)).alloc (.cells #[.slice (some ⟨W0.heap.size, 0, none⟩) 0 0] 48) := ⟨_, rfl⟩
  have HS0 : Hid (SuSt W0 (W0.heap.size + 1) W0.heap.size 0 (setL (sumP (xs.take 0) ys)) w1) := by
    show SuSt _ _ _ _ _ _
    rw [List.take_zero]
    refine ⟨by rw [hw1]; repeat (first | exact World.Ext.refl _ | exact ⟨_, rfl⟩ | assumption | refine World.Ext.over ?_ _ | refine World.Ext.drewN ?_ _ | refine World.Ext.drew ?_ | refine World.Ext.alloc ?_ _ | refine World.Ext.setCell ?_ (by simp) _), ?_, by omega, ?_⟩
    · rw [hw1]; exact One.new _ _ _ _ (by simp)
    · rw [hw1]; exact GrowP.ext (GrowP.empty W0 (Nat.le_refl _)) (by repeat (first | exact World.Ext.refl _ | exact ⟨_, rfl⟩ | assumption | refine World.Ext.over ?_ _ | refine World.Ext.drewN ?_ _ | refine World.Ext.drew ?_ | refine World.Ext.alloc ?_ _ | refine World.Ext.setCell ?_ (by simp) _))
  go_upto_region 2 with fail
  rw [← hw1]
  clear hw1
  generalize W0.heap.size + 1 = q5 at *
  go_wp2
  go_loopw [6, 7] (fun i _ wr => ∃ (k g cap : Nat), k ≤ xs.length ∧ i = .int .i64 k ∧ Hid (SuSt W0 q5 g cap (setL (sumP (xs.take k) ys)) wr)) (fun i _ _ => xs.length - (intOf i).toNat)
  case atStart => exact ⟨0, _, _, Nat.zero_le _, rfl, HS0⟩
  case round =>
    clear HS0
    obtain ⟨k, g, cap, hk, rfl, HS⟩ := hrel
    obtain ⟨wo, rfl⟩ : ∃ wo : World, wo = wr := ⟨_, rfl⟩
    have hk0 : (0 : Int) ≤ (k : Int) := by omega
    obtain ⟨d0, d1⟩ := HC.out wo HS.out.x
    by_cases hlt : k < xs.length
    · have hlt' : (k : Int) < (xs.length : Int) := by omega
      have hbx := HBX.out k hlt
      have HTK := Lib.hid (HTX.out k hlt)
      obtain ⟨bx, ox, hax, -⟩ := (HMX.out wo HS.out.x).at hlt
      subst hax
      have HMK : Hid (∀ w', W0.Ext w' → w'.cell? ⟨bx, ox + k * 2, none⟩ = some (.int .i64 (xs.getD k (0, 0)).1) ∧ w'.cell? ⟨bx, ox + k * 2 + 1, none⟩ = some (.int .i64 (xs.getD k (0, 0)).2)) := fun w' hx => by
        obtain ⟨b', o', e, h1, h2⟩ := (HMX.out w' hx).at hlt
        cases e
        exact ⟨h1, h2⟩
      have HLK := Lib.hid (fun j x y hj => HLX.out k j x y hlt hj)
      generalize xs.getD k (0, 0) = s at hbx HTK HMK
      obtain ⟨x, y⟩ := s
      dsimp only at hbx HTK HMK
      have HS3 : Hid (SuSt W0 q5 g cap (setL (sumP (xs.take k) ys ++ (ys.take 0).map (fun q => (x + q.1, y + q.2)))) wo) := by rw [List.take_zero, List.map_nil, List.append_nil]; exact HS.out
      clear HS
      generalize sumP (xs.take k) ys = L0 at *
      go_wp2
      clear d0 d1
      go_loopw [7] (fun i wr => ∃ (j g cap : Nat), j ≤ ys.length ∧ i = .int .i64 j ∧ Hid (SuSt W0 q5 g cap (setL (L0 ++ (ys.take j).map (fun q => (x + q.1, y + q.2)))) wr)) (fun i _ => ys.length - (intOf i).toNat)
      case atStart => exact ⟨0, _, _, by omega, rfl, HS3⟩
      case round =>
        clear HS3
        obtain ⟨j, g, cap, hj, rfl, HS⟩ := hrel
        obtain ⟨wi, rfl⟩ : ∃ wi : World, wi = wr := ⟨_, rfl⟩
        have hj0 : (0 : Int) ≤ (j : Int) := by omega
        obtain ⟨d0, d1⟩ := HC.out wi HS.out.x
        by_cases hltj : j < ys.length
        · have hltj' : (j : Int) < (ys.length : Int) := by omega
          obtain ⟨b5, o5, rfl, hd0, hd1⟩ := (HMY.out wi HS.out.x).at hltj
          obtain ⟨hc0, hc1⟩ := HMK.out wi HS.out.x
          have hby := HBY.out j hltj
          have HTJ : Hid ((ys.take (j + 1)).map (fun q => (x + q.1, y + q.2)) = (ys.take j).map (fun q => (x + q.1, y + q.2)) ++ [(x + (ys.getD j (0, 0)).1, y + (ys.getD j (0, 0)).2)]) := mapT_take _ (0, 0) hltj
          have hll := HLK.out j x y hltj
          generalize ys.getD j (0, 0) = q at *
          obtain ⟨u, v⟩ := q
          dsimp only at hd0 hd1 hby HTJ
          have hw1 : IntKind.i64.wrap (x + u) = x + u := by rw [IntWalk.i64_in _ (by omega)]
          have hw2 : IntKind.i64.wrap (y + v) = y + v := by rw [IntWalk.i64_in _ (by omega)]
          have HNX : Hid (putL (setL (L0 ++ (ys.take j).map (fun q => (x + q.1, y + q.2)))) (x + u, y + v) = setL (L0 ++ (ys.take (j + 1)).map (fun q => (x + q.1, y + q.2)))) := by show _ = _; rw [HTJ.out, ← List.append_assoc, setL_snoc]
          generalize setL (L0 ++ (ys.take j).map (fun q => (x + q.1, y + q.2))) = LL at *
          have c5 := HS.out.cell.cell
          have HPT := Lib.hid (fun x1 => HPUT.out g cap LL (x + u) (y + v) (wi.over x1) hll (HS.out.ext ⟨x1, rfl⟩).x.size (HS.out.ext ⟨x1, rfl⟩).row)
          rw [HNX.out] at HPT
          clear HNX HTJ
          obtain ⟨nL, hnL⟩ : ∃ nL, nL = LL.length := ⟨_, rfl⟩
          have HNL := Lib.hid hnL
          rw [← hnL] at HPT c5
          clear hnL
          obtain ⟨QQ, hQQ⟩ : ∃ QQ, QQ = setL (L0 ++ (ys.take (j + 1)).map (fun q => (x + q.1, y + q.2))) := ⟨_, rfl⟩
          have HQQ := Lib.hid hQQ
          rw [← hQQ] at HPT
          clear hQQ
          go_wp2_with fail
          refine wp_region_over_tail 37 (by kernel_rfl) (by kernel_rfl) ?_; simp only [List.take_succ_cons, List.take_zero, List.drop_succ_cons, List.drop_zero]; (repeat (go_big_quiet_step (fail))); refine wpQuiet_nil ?_; rintro _ ⟨x1, rfl⟩
          clear d0 d1 hd0 hd1 hc0 hc1 c5
          have HS5 := Lib.hid (HS.out.ext (show wi.Ext (wi.over x1) from ⟨x1, rfl⟩))
          have HC5 := Lib.hid (HPT.out x1)
          clear HS HPT
          generalize wi.over x1 = w5 at *
          go_wp2_with fail
          refine HC5.out.mono ?_
          rintro e w6 ⟨g6, cap6, rfl, hg6, hw6⟩
          obtain ⟨r1, r2, HS6⟩ := HS5.out.put hg6 hw6
          have HS9 : Hid (SuSt W0 q5 g6 cap6 (setL (L0 ++ (ys.take (j + 1)).map (fun q => (x + q.1, y + q.2)))) (w6.setCell ⟨q5, 0, none⟩ (.slice (some ⟨g6, 0, none⟩) QQ.length cap6))) := by
            have h := HS6.out
            rw [HQQ.out] at h ⊢
            exact h
          clear hg6 hw6 HS6 HS5 HC5 HQQ
          go_wp2
          go_roundw
          case rel => exact ⟨j + 1, g6, cap6, by omega, by go_num, HS9⟩
          case measure => simp [intOf]; omega
        · have hj4 : j = ys.length := by omega
          subst hj4
          have HS7 : Hid (SuSt W0 q5 g cap (setL (sumP (xs.take (k + 1)) ys)) wi) := by rw [HTK.out]; have h := HS.out; rw [List.take_length] at h; exact h
          clear HS
          go_wp2
          go_roundw
          case rel => exact ⟨k + 1, g, cap, by omega, by go_num, HS7⟩
          case measure => simp [intOf]; omega
    · have hkk : k = xs.length := by omega
      subst hkk
      rw [List.take_length] at HS
      have HS8 : Hid (SuSt W0 q5 g cap (sumL xs ys) wo) := HS
      clear HS
      obtain ⟨S, hS⟩ : ∃ S, S = sumL xs ys := ⟨_, rfl⟩
      have HSS := Lib.hid hS
      rw [← hS] at HS8
      clear hS
      obtain ⟨m, hm⟩ : ∃ m, m = S.length := ⟨_, rfl⟩
      have HMM := Lib.hid hm
      have c5 := HS8.out.cell.cell
      rw [← hm] at c5
      clear hm
      have hone := HO.out.ext HS8.out.x
      have r1 := hone.cell
      have r2 := hone.free
      have r3 := (hone.set (.slice (some ⟨g, 0, none⟩) m cap)).cell
      have l1 := hone.lt
      have hgl := (World.ownsRow.blockLt HS8.out.row).1
      have HFIN : Hid (ElOwn w (sumL xs ys) (.returned (.agg #[.slice (some ⟨g, 0, none⟩) m cap])) (wo.setCell ⟨w.heap.size, 0, none⟩ (.slice (some ⟨g, 0, none⟩) m cap))) := by
        rw [← HSS.out, HMM.out]
        exact ⟨g, cap, rfl, (HX0.out.trans HS8.out.x).setCell (p := ⟨w.heap.size, 0, none⟩) (Nat.le_refl _) _, (GrowP.setCell HS8.out.row (by simp only [Value.ownBlock]; intro e; cases e; omega) _).mono HX0.out.size⟩
      clear HS8 hone HSS
      go_wp2
      exact bodyPost_ret (v := .agg #[.slice (some ⟨g, 0, none⟩) m cap]) (by simp [results, Try.results64, go_sem, r3]) rfl HFIN.out
end Go.Proofs.Ytkpgelhmeokemaa
