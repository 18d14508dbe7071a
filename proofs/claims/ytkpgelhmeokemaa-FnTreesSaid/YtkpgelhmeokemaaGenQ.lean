/- The reference draws a square picture. -/
import Derived.Test.YtkpgelhmeokemaaGenA
namespace Go.Proofs.Ytkpgelhmeokemaa
open Go Go.RowKit
theorem among_any (wB : World) (p n q c : Nat) (xs : List Int) (w : World) (hn : n ≤ 900000000) (hl : 1 ≤ xs.length) (hl2 : xs.length ≤ 100) (h : SrcSt wB p n w) (hq : q ≠ p) (hc : ∀ k, k < xs.length → w.cell? ⟨q, k, none⟩ = some (.int .i64 (xs.getD k 0))) :
    Calls Try.prog 81 #[.pointer (some ⟨p, 0, none⟩), .slice (some ⟨q, 0, none⟩) xs.length c] w fun e w' => ∃ k : Nat, k < xs.length ∧ e = .returned (.int .i64 (xs.getD k 0)) ∧ Wrote (fun k => k = p) w w' ∧ SrcSt wB p (n + 2) w' := by
  have HP := Lib.hid (pick_any wB p n xs.length w hn h)
  have HC := Lib.hid hc
  clear h hc
  go_enter Try.func81, Try.ntmps81
  go_wp2_with fail
  refine HP.out.mono ?_
  rintro e w1 ⟨r, rfl, r0, r1, hw, hs⟩
  obtain ⟨k, rfl⟩ := Int.eq_ofNat_of_zero_le r0
  have hk : k < xs.length := by omega
  have hk' : (k : Int) < (xs.length : Int) := by omega
  have hc1 := hw.cell (HC.out k hk) (by simpa using hq)
  have HW := Lib.hid hw
  have HS1 := Lib.hid hs
  clear hw hs HP HC
  obtain ⟨z, hz⟩ : ∃ z, xs.getD k 0 = z := ⟨_, rfl⟩
  rw [hz] at hc1
  have HZ := Lib.hid hz
  clear hz
  go_wp2
  go_ret
  exact ⟨k, hk, (by rw [HZ.out]; rfl), HW.out, HS1.out⟩
def SideRet (wB : World) (p n : Nat) (w : World) (e : Ending) (w' : World) : Prop := ∃ k : Nat, k ≤ 4 ∧ e = .returned (.int .i64 ((2 ^ k : Nat) : Int)) ∧ Wrote (fun k => k = p) w w' ∧ SrcSt wB p (n + 4) w'
theorem drawSide_any (wB : World) (p n : Nat) (w : World) (hn : n ≤ 1000000) (h : SrcSt wB p n w) :
    Calls Try.prog 34 #[.pointer (some ⟨p, 0, none⟩)] w (SideRet wB p n w) := by
  have HO := Lib.hid (one_any wB p n 16 w (by omega) h)
  have hlt := h.lt
  clear h
  go_enter Try.func34, Try.ntmps34
  go_wp2_with fail
  refine HO.out.mono ?_
  rintro e w1 ⟨b, rfl, hw, hs⟩
  cases b
  · have hp1 : p < w1.heap.size := hs.lt
    have hxa : w1.Ext (w1.alloc (.cells #[.int .i64 1, .int .i64 2, .int .i64 4, .int .i64 4, .int .i64 8] 2)) := by repeat (first | exact World.Ext.refl _ | exact ⟨_, rfl⟩ | assumption | refine World.Ext.over ?_ _ | refine World.Ext.drewN ?_ _ | refine World.Ext.drew ?_ | refine World.Ext.alloc ?_ _ | refine World.Ext.setCell ?_ (by simp) _)
    have HA := Lib.hid (among_any wB p (n + 2) w1.heap.size 5 [1, 2, 4, 4, 8] (w1.alloc (.cells #[.int .i64 1, .int .i64 2, .int .i64 4, .int .i64 4, .int .i64 8] 2)) (by omega) (by decide) (by decide) (hs.ext hxa) (by omega) (fun k hk => by
      have hk : k < 5 := hk
      match k, hk with
      | 0, _ => simp [go_sem]
      | 1, _ => simp [go_sem]
      | 2, _ => simp [go_sem]
      | 3, _ => simp [go_sem]
      | 4, _ => simp [go_sem]))
    have HW := Lib.hid (hw.trans (hxa.wrote _))
    clear hw hs HO hxa
    go_wp2_with fail
    refine HA.out.mono ?_
    rintro e w2 ⟨k, hk, rfl, hw2, hs2⟩
    have HW2 := Lib.hid (HW.out.trans hw2)
    have HS2 := Lib.hid hs2
    clear hw2 hs2 HA HW
    have hz : Hid (∃ j : Nat, j ≤ 4 ∧ ([1, 2, 4, 4, 8] : List Int).getD k 0 = ((2 ^ j : Nat) : Int)) := by
      have hk : k < 5 := hk
      match k, hk with
      | 0, _ => exact ⟨0, by decide, rfl⟩
      | 1, _ => exact ⟨1, by decide, rfl⟩
      | 2, _ => exact ⟨2, by decide, rfl⟩
      | 3, _ => exact ⟨2, by decide, rfl⟩
      | 4, _ => exact ⟨3, by decide, rfl⟩
    generalize ([1, 2, 4, 4, 8] : List Int).getD k 0 = z at *
    go_wp2
    go_ret
    obtain ⟨j, hj, e⟩ := hz.out
    exact ⟨j, hj, (by rw [e]; rfl), HW2.out, HS2.out⟩
  · have HW := Lib.hid hw
    have HS := Lib.hid hs
    clear hw hs HO
    go_wp2
    go_ret
    exact ⟨4, by decide, rfl, HW.out, HS.out.more (by omega)⟩
theorem sub_mod_range (x q : Int) (hx : 0 ≤ x) (hq : 0 < q) : 0 ≤ x - x % q ∧ x - x % q ≤ x := by
  have h1 := Int.emod_nonneg x (show q ≠ 0 by omega)
  have h2 := Int.mul_ediv_add_emod x q
  have h3 : 0 ≤ q * (x / q) := Int.mul_nonneg (by omega) (Int.ediv_nonneg hx (by omega))
  omega
set_option maxRecDepth 5000 in
set_option maxHeartbeats 3200000 in
theorem drawSquare_any (wB : World) (p n S : Nat) (w : World) (hS1 : 1 ≤ S) (hS2 : S ≤ 16) (hn : n ≤ 1000000) (h : SrcSt wB p n w) :
    Calls Try.prog 35 #[.pointer (some ⟨p, 0, none⟩), .int .i64 S] w (DrawRet wB w p (n + 100) S S) := by
  obtain ⟨i0, hi, hz0, hz1, hz2⟩ := info_parts Try.infoBool'
  have HP : Hid (∀ w' n' N, n' ≤ 2000000 → SrcSt wB p n' w' → Calls Try.prog 44 #[.pointer (some ⟨p, 0, none⟩), .int .i64 N] w' (PickRet wB p (n' + 2) w' N)) := fun w' n' N h1 h2 => pick_any wB p n' N w' (by omega) h2
  have HO : Hid (∀ w' n' N, n' ≤ 2000000 → SrcSt wB p n' w' → Calls Try.prog 80 #[.pointer (some ⟨p, 0, none⟩), .int .i64 N] w' fun e w'' => ∃ b : Bool, e = .returned (.bool b) ∧ Wrote (fun k => k = p) w' w'' ∧ SrcSt wB p (n' + 2) w'') := fun w' n' N h1 h2 => one_any wB p n' N w' (by omega) h2
  have HSRC := Lib.hid h
  have hm : S * S ≤ 256 := Nat.mul_le_mul hS2 hS2
  have hm1 : 1 ≤ S * S := Nat.mul_pos hS1 hS1
  have hmi : (S : Int) * (S : Int) = ((S * S : Nat) : Int) := by rw [Int.natCast_mul]
  have hmb : (S : Int) * (S : Int) ≤ 4096 := by rw [hmi]; omega
  have hmb0 : 0 ≤ (S : Int) * (S : Int) := by rw [hmi]; omega
  obtain ⟨m, hmm⟩ : ∃ m, m = S * S := ⟨_, rfl⟩
  rw [← hmm] at hm hm1 hmi
  have C1 : Hid (i0.bytes * m ≤ 281474976710656) := by show _ ≤ _; rw [hz2]; omega
  have C2 : Hid (m ≤ maxLen) := by show _ ≤ _; unfold maxLen; omega
  have HMI := Lib.hid hmi
  have HMM := Lib.hid hmm
  clear h hmm hmi
  obtain ⟨W0, hW0⟩ : ∃ W0, W0 = w.alloc (.cells #[.slice none 0 0] 26) := ⟨_, rfl⟩
  have HX0 : Hid (w.Ext W0) := by show World.Ext _ _; rw [hW0]; repeat (first | exact World.Ext.refl _ | exact ⟨_, rfl⟩ | assumption | refine World.Ext.over ?_ _ | refine World.Ext.drewN ?_ _ | refine World.Ext.drew ?_ | refine World.Ext.alloc ?_ _ | refine World.Ext.setCell ?_ (by simp) _)
  have hsz0 : W0.heap.size = w.heap.size + 1 := by rw [hW0]; simp
  go_enter Try.func35, Try.ntmps35
  go_upto_region 1 with fail
  rw [← hW0]
  have HW0 : Hid (∀ w', W0.Ext w' → (w.alloc (.cells #[.slice none 0 0] 26)).Ext w') := fun w' h => by rw [← hW0]; exact h
  clear hW0
  go_wp2_with (at_make; refine wpList_make_full _ rfl _ _ 75 rfl 0 4 i0 (.bool false) 1 Try.underlying75 hi hz0 hz1 .i64 .i64 _ _ m rfl rfl HMI.out HMI.out C1.out C2.out (Nat.zero_le _) (fun w1 hown hgrow => ?_); go_loud (have hS0 : DrSt wB w p w.heap.size W0.heap.size m n w1 := DrSt.start HSRC.out (HW0.out _ (World.Ext.made hgrow)) (blk_of_made (f := Value.bool) false rfl hown) (by omega); have HS0 := Lib.hid hS0; clear hS0 hown hgrow HW0))
  refine (HP.out w1 n 5 (by omega) HS0.out.src).mono ?_
  rintro e w2 ⟨r, rfl, r0, r1, hw, hs⟩
  have HS := Lib.hid (HS0.out.call hw hs)
  clear hw hs HS0
  rw [hsz0] at HS
  clear hsz0 HX0 HSRC C1 C2 hi hz0 hz1 hz2
  obtain ⟨k, rfl⟩ : ∃ k : Nat, r = k := ⟨r.toNat, by omega⟩
  have hk4 : k ≤ 4 := by omega
  clear r0 r1
  go_wp2
  go_loopw [6, 7, 8, 9, 10, 11, 12] (fun i _ _ _ _ _ _ wr => ∃ j : Nat, j ≤ k ∧ i = .int .i64 j ∧ Hid (DrSt wB w p w.heap.size (w.heap.size + 1) m (n + 2 + 20 * (k - j)) wr)) (fun i _ _ _ _ _ _ _ => (intOf i).toNat)
  case atStart => exact ⟨k, Nat.le_refl _, rfl, by rw [Nat.sub_self]; exact HS⟩
  case round =>
    clear HS
    obtain ⟨j, hj, rfl, HS⟩ := hrel
    obtain ⟨wo, rfl⟩ : ∃ wo : World, wo = wr := ⟨_, rfl⟩
    by_cases hlt : 0 < j
    · have hlt' : (0 : Int) < (j : Int) := by omega
      go_wp2_with fail
      refine (HP.out wo (n + 2 + 20 * (k - j)) _ (by omega) HS.out.src).mono ?_
      rintro e w3 ⟨r, rfl, r0, r1, hw, hs⟩
      have HS3 := Lib.hid (HS.out.call hw hs)
      obtain ⟨r, rfl⟩ : ∃ q : Nat, r = q := ⟨r.toNat, by omega⟩
      have hr4 : r < 4 := by omega
      clear hw hs HS r0 r1
      have hr4' : (r : Int) < 4 := by omega
      obtain ⟨z, hz, hz1, hz8⟩ : ∃ z : Nat, wrap64 ((2 : Int) ^ r) = (z : Int) ∧ 1 ≤ z ∧ z ≤ 8 := by
        match r, hr4 with
        | 0, _ => exact ⟨1, by simp [wrap64], by decide, by decide⟩
        | 1, _ => exact ⟨2, by simp [wrap64], by decide, by decide⟩
        | 2, _ => exact ⟨4, by simp [wrap64], by decide, by decide⟩
        | 3, _ => exact ⟨8, by simp [wrap64], by decide, by decide⟩
      go_upto_region 6 with fail
      rw [hz]
      clear hz hr4'
      by_cases hzS : S < z
      · have hzS' : (S : Int) < (z : Int) := by omega
        have hq1 : 1 ≤ S := hS1
        have hqS : S ≤ S := by omega
        have hq0 : (0 : Int) < (S : Int) := by omega
        go_wp2_with fail
        refine (HP.out w3 _ _ (by omega) HS3.out.src).mono ?_
        rintro e w4 ⟨x, rfl, x0, x1, hw, hs⟩
        have HS4 := Lib.hid (HS3.out.call hw hs)
        have x2 : x < (S : Int) := by omega
        clear hw hs HS3 x1
        go_wp2_with fail
        refine (HP.out w4 _ _ (by omega) HS4.out.src).mono ?_
        rintro e w5 ⟨y, rfl, y0, y1, hw, hs⟩
        have HS5 := Lib.hid (HS4.out.call hw hs)
        have y2 : y < (S : Int) := by omega
        clear hw hs HS4 y1
        go_wp2_with fail
        refine (HO.out w5 _ _ (by omega) HS5.out.src).mono ?_
        rintro e w6 ⟨bk, rfl, hw, hs⟩
        have HS6 := Lib.hid (HS5.out.call hw hs)
        clear hw hs HS5
        go_wp2_with fail
        refine (HO.out w6 _ _ (by omega) HS6.out.src).mono ?_
        rintro e w7 ⟨al, rfl, hw, hs⟩
        have HS7 := Lib.hid ((HS6.out.call hw hs).more (n' := n + 2 + 20 * (k - (j - 1))) (by omega))
        clear hw hs HS6
        have HX : Hid (0 ≤ x - x % S ∧ x - x % S ≤ x) := sub_mod_range x S x0 hq0
        have HY : Hid (0 ≤ y - y % S ∧ y - y % S ≤ y) := sub_mod_range y S y0 hq0
        cases al
        · obtain ⟨xa, xb⟩ := HX.out
          obtain ⟨ya, yb⟩ := HY.out
          have hX0 : 0 ≤ x := by omega
          have hXS : x < (S : Int) := by omega
          have hY0 : 0 ≤ y := by omega
          have hYS : y < (S : Int) := by omega
          go_wp2
          go_loopw [11, 12] (fun v _ wr => ∃ v' : Nat, v = .int .i64 v' ∧ Hid (DrSt wB w p w.heap.size (w.heap.size + 1) m (n + 2 + 20 * (k - (j - 1))) wr)) (fun v _ _ => S - (intOf v).toNat)
          case atStart => exact ⟨(y).toNat, by rw [Int.toNat_of_nonneg hY0], HS7⟩
          case round =>
            clear HS7
            obtain ⟨v, rfl, HS⟩ := hrel
            obtain ⟨wv, rfl⟩ : ∃ wv : World, wv = wr := ⟨_, rfl⟩
            by_cases h1 : (v : Int) < y + (S : Int)
            · by_cases h2 : (v : Int) < (S : Int)
              · go_wp2
                go_loopw [12] (fun u wr => ∃ u' : Nat, u = .int .i64 u' ∧ Hid (DrSt wB w p w.heap.size (w.heap.size + 1) m (n + 2 + 20 * (k - (j - 1))) wr)) (fun u _ => S - (intOf u).toNat)
                case atStart => exact ⟨(x).toNat, by rw [Int.toNat_of_nonneg hX0], HS⟩
                case round =>
                  clear HS
                  obtain ⟨u, rfl, HS⟩ := hrel
                  obtain ⟨wu, rfl⟩ : ∃ wu : World, wu = wr := ⟨_, rfl⟩
                  by_cases h3 : (u : Int) < x + (S : Int)
                  · by_cases h4 : (u : Int) < (S : Int)
                    · have hvu : v * S + u < m := by
                        rw [HMM.out]
                        have := Nat.mul_le_mul_right S (show v + 1 ≤ S by omega)
                        rw [Nat.succ_mul] at this
                        omega
                      have hm0 : 0 ≤ (v : Int) * (S : Int) := by rw [← Int.natCast_mul]; omega
                      have hm2 : (v : Int) * (S : Int) ≤ 256 := by rw [← Int.natCast_mul]; omega
                      have hm3 : (v : Int) * (S : Int) + (u : Int) < (m : Int) := by rw [← Int.natCast_mul]; omega
                      obtain ⟨vb, hc, hf, hset⟩ := HS.out.at hvu
                      have HS8 := Lib.hid (hset (!bk))
                      clear hset HS
                      go_wp2
                      go_roundw
                      case rel => exact ⟨u + 1, by go_num, HS8⟩
                      case measure => simp [intOf]; omega
                    · go_wp2
                      go_roundw
                      case rel => exact ⟨v + 1, by go_num, HS⟩
                      case measure => simp [intOf]; omega
                  · go_wp2
                    go_roundw
                    case rel => exact ⟨v + 1, by go_num, HS⟩
                    case measure => simp [intOf]; omega
              · go_wp2
                go_roundw
                case rel => exact ⟨j - 1, by omega, by go_num, HS⟩
                case measure => simp [intOf]; omega
            · go_wp2
              go_roundw
              case rel => exact ⟨j - 1, by omega, by go_num, HS⟩
              case measure => simp [intOf]; omega
        · obtain ⟨xa, xb⟩ := HX.out
          obtain ⟨ya, yb⟩ := HY.out
          have hX0 : 0 ≤ x - x % S := by omega
          have hXS : x - x % S < (S : Int) := by omega
          have hY0 : 0 ≤ y - y % S := by omega
          have hYS : y - y % S < (S : Int) := by omega
          go_wp2
          go_loopw [11, 12] (fun v _ wr => ∃ v' : Nat, v = .int .i64 v' ∧ Hid (DrSt wB w p w.heap.size (w.heap.size + 1) m (n + 2 + 20 * (k - (j - 1))) wr)) (fun v _ _ => S - (intOf v).toNat)
          case atStart => exact ⟨(y - y % S).toNat, by rw [Int.toNat_of_nonneg hY0], HS7⟩
          case round =>
            clear HS7
            obtain ⟨v, rfl, HS⟩ := hrel
            obtain ⟨wv, rfl⟩ : ∃ wv : World, wv = wr := ⟨_, rfl⟩
            by_cases h1 : (v : Int) < y - y % S + (S : Int)
            · by_cases h2 : (v : Int) < (S : Int)
              · go_wp2
                go_loopw [12] (fun u wr => ∃ u' : Nat, u = .int .i64 u' ∧ Hid (DrSt wB w p w.heap.size (w.heap.size + 1) m (n + 2 + 20 * (k - (j - 1))) wr)) (fun u _ => S - (intOf u).toNat)
                case atStart => exact ⟨(x - x % S).toNat, by rw [Int.toNat_of_nonneg hX0], HS⟩
                case round =>
                  clear HS
                  obtain ⟨u, rfl, HS⟩ := hrel
                  obtain ⟨wu, rfl⟩ : ∃ wu : World, wu = wr := ⟨_, rfl⟩
                  by_cases h3 : (u : Int) < x - x % S + (S : Int)
                  · by_cases h4 : (u : Int) < (S : Int)
                    · have hvu : v * S + u < m := by
                        rw [HMM.out]
                        have := Nat.mul_le_mul_right S (show v + 1 ≤ S by omega)
                        rw [Nat.succ_mul] at this
                        omega
                      have hm0 : 0 ≤ (v : Int) * (S : Int) := by rw [← Int.natCast_mul]; omega
                      have hm2 : (v : Int) * (S : Int) ≤ 256 := by rw [← Int.natCast_mul]; omega
                      have hm3 : (v : Int) * (S : Int) + (u : Int) < (m : Int) := by rw [← Int.natCast_mul]; omega
                      obtain ⟨vb, hc, hf, hset⟩ := HS.out.at hvu
                      have HS8 := Lib.hid (hset (!bk))
                      clear hset HS
                      go_wp2
                      go_roundw
                      case rel => exact ⟨u + 1, by go_num, HS8⟩
                      case measure => simp [intOf]; omega
                    · go_wp2
                      go_roundw
                      case rel => exact ⟨v + 1, by go_num, HS⟩
                      case measure => simp [intOf]; omega
                  · go_wp2
                    go_roundw
                    case rel => exact ⟨v + 1, by go_num, HS⟩
                    case measure => simp [intOf]; omega
              · go_wp2
                go_roundw
                case rel => exact ⟨j - 1, by omega, by go_num, HS⟩
                case measure => simp [intOf]; omega
            · go_wp2
              go_roundw
              case rel => exact ⟨j - 1, by omega, by go_num, HS⟩
              case measure => simp [intOf]; omega
      · have hzS' : ¬ (S : Int) < (z : Int) := by omega
        have hq1 : 1 ≤ z := hz1
        have hqS : z ≤ S := by omega
        have hq0 : (0 : Int) < (z : Int) := by omega
        go_wp2_with fail
        refine (HP.out w3 _ _ (by omega) HS3.out.src).mono ?_
        rintro e w4 ⟨x, rfl, x0, x1, hw, hs⟩
        have HS4 := Lib.hid (HS3.out.call hw hs)
        have x2 : x < (S : Int) := by omega
        clear hw hs HS3 x1
        go_wp2_with fail
        refine (HP.out w4 _ _ (by omega) HS4.out.src).mono ?_
        rintro e w5 ⟨y, rfl, y0, y1, hw, hs⟩
        have HS5 := Lib.hid (HS4.out.call hw hs)
        have y2 : y < (S : Int) := by omega
        clear hw hs HS4 y1
        go_wp2_with fail
        refine (HO.out w5 _ _ (by omega) HS5.out.src).mono ?_
        rintro e w6 ⟨bk, rfl, hw, hs⟩
        have HS6 := Lib.hid (HS5.out.call hw hs)
        clear hw hs HS5
        go_wp2_with fail
        refine (HO.out w6 _ _ (by omega) HS6.out.src).mono ?_
        rintro e w7 ⟨al, rfl, hw, hs⟩
        have HS7 := Lib.hid ((HS6.out.call hw hs).more (n' := n + 2 + 20 * (k - (j - 1))) (by omega))
        clear hw hs HS6
        have HX : Hid (0 ≤ x - x % z ∧ x - x % z ≤ x) := sub_mod_range x z x0 hq0
        have HY : Hid (0 ≤ y - y % z ∧ y - y % z ≤ y) := sub_mod_range y z y0 hq0
        cases al
        · obtain ⟨xa, xb⟩ := HX.out
          obtain ⟨ya, yb⟩ := HY.out
          have hX0 : 0 ≤ x := by omega
          have hXS : x < (S : Int) := by omega
          have hY0 : 0 ≤ y := by omega
          have hYS : y < (S : Int) := by omega
          go_wp2
          go_loopw [11, 12] (fun v _ wr => ∃ v' : Nat, v = .int .i64 v' ∧ Hid (DrSt wB w p w.heap.size (w.heap.size + 1) m (n + 2 + 20 * (k - (j - 1))) wr)) (fun v _ _ => S - (intOf v).toNat)
          case atStart => exact ⟨(y).toNat, by rw [Int.toNat_of_nonneg hY0], HS7⟩
          case round =>
            clear HS7
            obtain ⟨v, rfl, HS⟩ := hrel
            obtain ⟨wv, rfl⟩ : ∃ wv : World, wv = wr := ⟨_, rfl⟩
            by_cases h1 : (v : Int) < y + (z : Int)
            · by_cases h2 : (v : Int) < (S : Int)
              · go_wp2
                go_loopw [12] (fun u wr => ∃ u' : Nat, u = .int .i64 u' ∧ Hid (DrSt wB w p w.heap.size (w.heap.size + 1) m (n + 2 + 20 * (k - (j - 1))) wr)) (fun u _ => S - (intOf u).toNat)
                case atStart => exact ⟨(x).toNat, by rw [Int.toNat_of_nonneg hX0], HS⟩
                case round =>
                  clear HS
                  obtain ⟨u, rfl, HS⟩ := hrel
                  obtain ⟨wu, rfl⟩ : ∃ wu : World, wu = wr := ⟨_, rfl⟩
                  by_cases h3 : (u : Int) < x + (z : Int)
                  · by_cases h4 : (u : Int) < (S : Int)
                    · have hvu : v * S + u < m := by
                        rw [HMM.out]
                        have := Nat.mul_le_mul_right S (show v + 1 ≤ S by omega)
                        rw [Nat.succ_mul] at this
                        omega
                      have hm0 : 0 ≤ (v : Int) * (S : Int) := by rw [← Int.natCast_mul]; omega
                      have hm2 : (v : Int) * (S : Int) ≤ 256 := by rw [← Int.natCast_mul]; omega
                      have hm3 : (v : Int) * (S : Int) + (u : Int) < (m : Int) := by rw [← Int.natCast_mul]; omega
                      obtain ⟨vb, hc, hf, hset⟩ := HS.out.at hvu
                      have HS8 := Lib.hid (hset (!bk))
                      clear hset HS
                      go_wp2
                      go_roundw
                      case rel => exact ⟨u + 1, by go_num, HS8⟩
                      case measure => simp [intOf]; omega
                    · go_wp2
                      go_roundw
                      case rel => exact ⟨v + 1, by go_num, HS⟩
                      case measure => simp [intOf]; omega
                  · go_wp2
                    go_roundw
                    case rel => exact ⟨v + 1, by go_num, HS⟩
                    case measure => simp [intOf]; omega
              · go_wp2
                go_roundw
                case rel => exact ⟨j - 1, by omega, by go_num, HS⟩
                case measure => simp [intOf]; omega
            · go_wp2
              go_roundw
              case rel => exact ⟨j - 1, by omega, by go_num, HS⟩
              case measure => simp [intOf]; omega
        · obtain ⟨xa, xb⟩ := HX.out
          obtain ⟨ya, yb⟩ := HY.out
          have hX0 : 0 ≤ x - x % z := by omega
          have hXS : x - x % z < (S : Int) := by omega
          have hY0 : 0 ≤ y - y % z := by omega
          have hYS : y - y % z < (S : Int) := by omega
          go_wp2
          go_loopw [11, 12] (fun v _ wr => ∃ v' : Nat, v = .int .i64 v' ∧ Hid (DrSt wB w p w.heap.size (w.heap.size + 1) m (n + 2 + 20 * (k - (j - 1))) wr)) (fun v _ _ => S - (intOf v).toNat)
          case atStart => exact ⟨(y - y % z).toNat, by rw [Int.toNat_of_nonneg hY0], HS7⟩
          case round =>
            clear HS7
            obtain ⟨v, rfl, HS⟩ := hrel
            obtain ⟨wv, rfl⟩ : ∃ wv : World, wv = wr := ⟨_, rfl⟩
            by_cases h1 : (v : Int) < y - y % z + (z : Int)
            · by_cases h2 : (v : Int) < (S : Int)
              · go_wp2
                go_loopw [12] (fun u wr => ∃ u' : Nat, u = .int .i64 u' ∧ Hid (DrSt wB w p w.heap.size (w.heap.size + 1) m (n + 2 + 20 * (k - (j - 1))) wr)) (fun u _ => S - (intOf u).toNat)
                case atStart => exact ⟨(x - x % z).toNat, by rw [Int.toNat_of_nonneg hX0], HS⟩
                case round =>
                  clear HS
                  obtain ⟨u, rfl, HS⟩ := hrel
                  obtain ⟨wu, rfl⟩ : ∃ wu : World, wu = wr := ⟨_, rfl⟩
                  by_cases h3 : (u : Int) < x - x % z + (z : Int)
                  · by_cases h4 : (u : Int) < (S : Int)
                    · have hvu : v * S + u < m := by
                        rw [HMM.out]
                        have := Nat.mul_le_mul_right S (show v + 1 ≤ S by omega)
                        rw [Nat.succ_mul] at this
                        omega
                      have hm0 : 0 ≤ (v : Int) * (S : Int) := by rw [← Int.natCast_mul]; omega
                      have hm2 : (v : Int) * (S : Int) ≤ 256 := by rw [← Int.natCast_mul]; omega
                      have hm3 : (v : Int) * (S : Int) + (u : Int) < (m : Int) := by rw [← Int.natCast_mul]; omega
                      obtain ⟨vb, hc, hf, hset⟩ := HS.out.at hvu
                      have HS8 := Lib.hid (hset (!bk))
                      clear hset HS
                      go_wp2
                      go_roundw
                      case rel => exact ⟨u + 1, by go_num, HS8⟩
                      case measure => simp [intOf]; omega
                    · go_wp2
                      go_roundw
                      case rel => exact ⟨v + 1, by go_num, HS⟩
                      case measure => simp [intOf]; omega
                  · go_wp2
                    go_roundw
                    case rel => exact ⟨v + 1, by go_num, HS⟩
                    case measure => simp [intOf]; omega
              · go_wp2
                go_roundw
                case rel => exact ⟨j - 1, by omega, by go_num, HS⟩
                case measure => simp [intOf]; omega
            · go_wp2
              go_roundw
              case rel => exact ⟨j - 1, by omega, by go_num, HS⟩
              case measure => simp [intOf]; omega
    · have : j = 0 := by omega
      subst this
      obtain ⟨l, hl, hb⟩ := HS.out.px
      have HMK := Lib.hid (l01MakeG_any (some ⟨w.heap.size + 1, 0, none⟩) m S S l wo hS1 (by omega) (by omega) (by rw [hl, HMM.out]) (hb.own false (Nat.le_refl _) (Nat.le_refl _) (lo := w.heap.size + 1)).row)
      rw [hl] at HMK
      have HL : Hid (l.length = S * S) := by show _ = _; rw [hl, HMM.out]
      clear hb hl
      go_wp2_with fail
      refine HMK.out.mono ?_
      rintro e w4 ⟨a4, c4, rfl, hx4, ho4⟩
      obtain ⟨r1, r2, r3, HR⟩ := HS.out.store hx4 ho4 (.slice a4 S c4)
      clear hx4 ho4 HS HMK
      go_wp2
      exact bodyPost_ret (v := .agg #[.slice a4 S c4]) (by simp [results, Try.results35, go_sem, r3]) rfl ⟨a4, c4, l, HL.out, rfl, HR.out.1, HR.out.2.1.more (by omega), HR.out.2.2⟩
def PicSq (ss : List ByteArray) : Prop := ∃ k, k ≤ 4 ∧ PicOf (2 ^ k) (2 ^ k) ss
set_option maxRecDepth 5000 in
theorem r8Square_any (a : Option Addr) (c : Nat) (zs : List Int) (w : World) (h : CodeAt w a zs) :
    Calls Try.prog 7 #[.slice a zs.length c] w (NewPic w PicSq) := by
  obtain ⟨W0, hW0⟩ : ∃ W0, W0 = w.alloc (.cells #[.slice none 0 0] 26) := ⟨_, rfl⟩
  have hx0 : w.Ext W0 := by rw [hW0]; repeat (first | exact World.Ext.refl _ | exact ⟨_, rfl⟩ | assumption | refine World.Ext.over ?_ _ | refine World.Ext.drewN ?_ _ | refine World.Ext.drew ?_ | refine World.Ext.alloc ?_ _ | refine World.Ext.setCell ?_ (by simp) _)
  have hone : One W0 w.heap.size 26 (.slice none 0 0) := by rw [hW0]; exact One.new _ _ _ _ rfl
  have hlt := hone.lt
  have HF := Lib.hid (from_any a c zs w W0 hx0 h)
  have HSI : Hid (∀ w', SrcSt w W0.heap.size 0 w' → Calls Try.prog 34 #[.pointer (some ⟨W0.heap.size, 0, none⟩)] w' (SideRet w W0.heap.size 0 w')) := fun w' h2 => drawSide_any w W0.heap.size 0 w' (by omega) h2
  have HONE := Lib.hid hone
  clear hone h
  go_enter Try.func7, Try.ntmps7
  go_wp2_with fail
  rw [← hW0]
  clear hW0
  refine HF.out.mono ?_
  rintro e w1 ⟨rfl, hx1, hs⟩
  have HS1 := Lib.hid hs
  have HO1 := Lib.hid (HONE.out.ext hx1)
  clear hx1 hs HF HONE
  go_wp2_with fail
  refine (HSI.out w1 HS1.out).mono ?_
  rintro e w2 ⟨k, hk, rfl, hw, hs⟩
  have HO3 := Lib.hid (HO1.out.keep (hw.block _ HO1.out.lt (by omega)))
  have HS3 := Lib.hid hs
  clear hw hs HS1 HO1
  obtain ⟨S, hS⟩ : ∃ S, S = 2 ^ k := ⟨_, rfl⟩
  have hS16 : S ≤ 16 := by rw [hS]; exact Nat.pow_le_pow_right (by decide) hk
  have hS1 : 1 ≤ S := by rw [hS]; exact Nat.two_pow_pos k
  rw [← hS]
  have HD := Lib.hid (drawSquare_any w W0.heap.size _ S w2 hS1 hS16 (by omega) HS3.out)
  have HK : Hid (k ≤ 4 ∧ S = 2 ^ k) := ⟨hk, hS⟩
  clear hS hk HSI
  go_wp2_with fail
  refine HD.out.mono ?_
  rintro e w4 ⟨a4, c4, l, hl, rfl, hw, hs, ho⟩
  have ho := GrowOf.own ByteArray.empty ho
  have HX4 : Hid (w.Ext w4) := hs.x
  have hlen := picRows_len S S l
  obtain ⟨r1, r2, r3, HR⟩ := Res.store (lo := w2.heap.size) (.slice a4 S c4) HX4.out (Nat.le_refl _) (HO3.out.keep (hw.block _ HO3.out.lt (by omega))) HO3.out.lt ho
  have HQ : Hid (PicSq (picRows S S l)) := ⟨k, HK.out.1, picOk_rows hS1 hS16 hS1 hS16 hl, by rw [hlen]; exact HK.out.2, by rw [picW_rows (by omega) hl]; exact HK.out.2⟩
  have HLEN := Lib.hid hlen
  clear hw hs ho hl HS3 HO3 HD hlen
  go_wp2
  exact bodyPost_ret (v := .agg #[.slice a4 S c4]) (by simp [results, Try.results7, go_sem, r3]) rfl ⟨a4, c4, picRows S S l, by rw [HLEN.out], HQ.out, HR.out.1, HR.out.2⟩
end Go.Proofs.Ytkpgelhmeokemaa
