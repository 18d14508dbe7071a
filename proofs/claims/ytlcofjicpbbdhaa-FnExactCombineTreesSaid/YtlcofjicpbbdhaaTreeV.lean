/- Quadtrees: the reference turns and joins pictures. -/
import Derived.Test.YtlcofjicpbbdhaaTreeU
namespace Go.Proofs.Ytlcofjicpbbdhaa
open Go Go.RowKit
def trnF (k m : Nat) (f : Nat → Nat → Bool) (x y : Nat) : Bool := match k with
  | 0 => f (m - 1 - x) y
  | 1 => f x (m - 1 - y)
  | 2 => f y x
  | _ => f y (m - 1 - x)
def joinB (k : Nat) (a b : Bool) : Bool := match k with
  | 0 => a && b
  | 1 => a || b
  | 2 => a != b
  | _ => a && !b
set_option maxRecDepth 5000 in
set_option maxHeartbeats 1600000 in
theorem l01Turn0_any (p : Nat) (a : Option Addr) (c : Nat) (ss : List ByteArray) (m : Nat) (w : World) (he : Even ss) (hm1 : 1 ≤ m) (hm16 : m ≤ 16) (hW : picW ss = m) (hH : ss.length = m) (hp : w.cell? ⟨p, 0, none⟩ = some (.slice a m c)) (hr : RowS w a ss) :
    Calls Try.prog 169 #[.pointer (some ⟨p, 0, none⟩), .int .i64 0] w (PicVal w (picRows m m (mkl m m (trnF 0 m (fS ss))))) := by
  obtain ⟨ib, hib, hb0, hb1, hb2⟩ := info_parts Try.infoBoolR
  have HHS : Hid (∀ w', w.Ext w' → Calls Try.prog 120 #[.pointer (some ⟨p, 0, none⟩)] w' fun e w'' => e = .returned (.int .i64 m) ∧ w'.Ext w'') := fun w' hx => l01Height_any p a c m w' (by omega) (hx.cell hp)
  have HWS : Hid (∀ w', w.Ext w' → Calls Try.prog 82 #[.pointer (some ⟨p, 0, none⟩)] w' fun e w'' => e = .returned (.int .i64 m) ∧ w'.Ext w'') := fun w' hx => by
    have h := l01Width_any p a c ss w' he.1 (by omega) (by omega) (by rw [hH]; exact hx.cell hp) (RowOf.ext hr hx)
    rw [hW] at h
    exact h
  have HBL : Hid (∀ w', w.Ext w' → ∀ x y : Nat, x < m → y < m → Calls Try.prog 94 #[.pointer (some ⟨p, 0, none⟩), .int .i64 ((m : Int) - 1 - x), .int .i64 (y : Int)] w' fun e w'' => e = .returned (.bool (trnF 0 m (fS ss) x y)) ∧ w'.Ext w'') := fun w' hx x y h1 h2 => by
    rw [show ((m : Int) - 1 - x) = ((m - 1 - x : Nat) : Int) from by omega, show (y : Int) = ((y : Nat) : Int) from rfl]
    exact l01Black_any p a c ss _ _ w' he (by omega) (by omega) (by rw [hH]; exact hx.cell hp) (RowOf.ext hr hx) _ rfl
  have HAT : Hid (∀ x y : Nat, x < m → y < m → (mkl m m (trnF 0 m (fS ss))).getD (y * m + x) false = trnF 0 m (fS ss) x y) := fun x y h1 h2 => mkl_at _ _ _ x y h1 h2
  have HLEN := Lib.hid (mkl_len m m (trnF 0 m (fS ss)))
  obtain ⟨W0, hW0⟩ : ∃ W0, W0 = w.alloc (.cells #[.slice none 0 0] 26) := ⟨_, rfl⟩
  have hx0 : w.Ext W0 := by rw [hW0]; repeat (first | exact World.Ext.refl _ | exact ⟨_, rfl⟩ | assumption | refine World.Ext.over ?_ _ | refine World.Ext.drewN ?_ _ | refine World.Ext.drew ?_ | refine World.Ext.alloc ?_ _ | refine World.Ext.setCell ?_ (by simp) _)
  have hone : One W0 w.heap.size 26 (.slice none 0 0) := by rw [hW0]; exact One.new _ _ _ _ rfl
  have hsz0 : W0.heap.size = w.heap.size + 1 := by rw [hW0]; simp
  have HX0 := Lib.hid hx0
  have HO := Lib.hid hone
  clear hr he hp hx0 hone hW hH
  generalize mkl m m (trnF 0 m (fS ss)) = L at *
  generalize trnF 0 m (fS ss) = g at *
  go_enter Try.func169, Try.ntmps169
  go_wp2_with fail
  rw [← hW0]
  refine (HWS.out _ HX0.out).mono ?_
  rintro e w1 ⟨rfl, hx1⟩
  have HX1 := Lib.hid (HX0.out.trans hx1)
  have HO1 := Lib.hid (HO.out.ext hx1)
  have hs1 := hx1.size
  clear hx1 hW0 HX0 HO
  go_wp2_with fail
  refine (HHS.out _ HX1.out).mono ?_
  rintro e w2 ⟨rfl, hx2⟩
  have HST : Hid (PixSt w w.heap.size 26 (w2.alloc (.cells #[] 4)) ∧ GrowOf Value.bool (w.heap.size + 1) 4 (w2.alloc (.cells #[] 4)) (.slice (some ⟨w2.heap.size, 0, none⟩) 0 0) []) :=
    ⟨⟨(HX1.out.trans hx2).alloc _, (HO1.out.ext hx2).ext ((World.Ext.refl _).alloc _)⟩, GrowOf.empty w2 (by have := hx2.size; omega)⟩
  clear hx2 HX1 HO1
  go_wp2
  go_loopw [9, 10, 11] (fun v i _ wr => ∃ y : Nat, y ≤ m ∧ i = .int .i64 y ∧ Hid (PixSt w w.heap.size 26 wr ∧ GrowOf Value.bool (w.heap.size + 1) 4 wr v (L.take (y * m)))) (fun _ i _ _ => m - (intOf i).toNat)
  case atStart => exact ⟨0, Nat.zero_le _, rfl, by rw [Nat.zero_mul]; exact HST⟩
  case round =>
    obtain ⟨y, hy, rfl, HS⟩ := hrel
    clear HST
    obtain ⟨wo, rfl⟩ : ∃ wo : World, wo = wr := ⟨_, rfl⟩
    by_cases hlty : y < m
    · have hlty' : (y : Int) < (m : Int) := by omega
      go_wp2
      go_loopw [9, 11] (fun v i wr => ∃ x : Nat, x ≤ m ∧ i = .int .i64 x ∧ Hid (PixSt w w.heap.size 26 wr ∧ GrowOf Value.bool (w.heap.size + 1) 4 wr v (L.take (y * m + x)))) (fun _ i _ => m - (intOf i).toNat)
      case atStart => exact ⟨0, Nat.zero_le _, rfl, HS⟩
      case round =>
        clear HS
        obtain ⟨x, hx, rfl, HS⟩ := hrel
        obtain ⟨w3, rfl⟩ : ∃ w3 : World, w3 = wr := ⟨_, rfl⟩
        by_cases hltx : x < m
        · have hltx' : (x : Int) < (m : Int) := by omega
          have HC := Lib.hid (fun w' hx => HBL.out w' hx x y hltx hlty)
          have hk : y * m + x < L.length := by rw [HLEN.out]; exact idx2 hltx hlty
          have hsum : L.length ≤ 256 := by rw [HLEN.out]; exact Nat.mul_le_mul hm16 hm16
          have hlen : (L.take (y * m + x)).length = y * m + x := by simp; omega
          have HQ : Hid (L.take (y * m + (x + 1)) = L.take (y * m + x) ++ [g x y]) := by show _ = _; rw [← Nat.add_assoc, take_next hk, HAT.out x y hltx hlty]
          have HB1 : Hid ((L.take (y * m + x)).length + 1 ≤ maxLen) := by show _ ≤ _; rw [hlen]; unfold maxLen; omega
          have HB2 : Hid (((L.take (y * m + x)).length + 1) * 1 ≤ 140737488355328) := by show _ ≤ _; rw [hlen]; omega
          clear hlen hk hsum
          generalize g x y = bt at *
          go_wp2_with fail
          refine (HC.out _ HS.out.1.x).mono ?_
          rintro e w4 ⟨rfl, hx4⟩
          have HS2 := Lib.hid (And.intro (HS.out.1.ext hx4) (HS.out.2.ext hx4))
          clear hx4 HS HC
          have HNEXT : Hid (∀ (o : Obj) (v' : Value) (w1 : World), (w4.alloc o).grownBy w1 u9.ownBlock → w1.ownsRow (w.heap.size + 1) 4 1 v' ((L.take (y * m + x)).length + 1) ((L.take (y * m + x)).map Value.bool ++ [.bool bt]) → Hid (PixSt w w.heap.size 26 w1 ∧ GrowOf Value.bool (w.heap.size + 1) 4 w1 v' (L.take (y * m + (x + 1))))) := fun o v' w1 hgrow hown' => by
            have hg := GrowOf.push hown'
            rw [← HQ.out] at hg
            refine ⟨⟨(HS2.out.1.x.alloc o).grown hgrow fun k hk => ?_, (HS2.out.1.one.ext ((World.Ext.refl _).alloc o)).grown hgrow (HS2.out.2.ne HS2.out.1.one (by decide))⟩, hg⟩
            have := (HS2.out.2.block hk).1
            omega
          have hown := HS2.out.2
          unfold GrowOf at hown
          have HLE : ∀ o' : Obj, w.heap.size + 1 ≤ (w4.alloc o').heap.size := fun o' => by have := HS2.out.1.one.lt; simp; omega
          clear HS2 HQ
          generalize L.take (y * m + x) = pre at *
          go_wp2_with ((at_builtin; refine wpList_append_own _ rfl _ _ 59 rfl (w.heap.size + 1) 4 ib (.bool false) 1 1 Try.underlying59 hib hb0 hb1 hb2 rfl (by decide) _ _ _ rfl (hown.alloc _) ⟨w4.heap.size, 0, none⟩ 1 1 [.bool bt] rfl rfl (cell_one_new _ _ _) (by simp [Value.oneCell']) HB1.out HB2.out (HLE _) (fun v' w1 hown' hgrow _ => ?_)); have HS4 := HNEXT.out _ _ _ hgrow hown'; clear hgrow hown' hown)
          go_roundw
          case rel => exact ⟨x + 1, by omega, by go_num, HS4⟩
          case measure => simp [intOf]; omega
        · have : x = m := by omega
          subst this
          have HS2 : Hid (PixSt w w.heap.size 26 w3 ∧ GrowOf Value.bool (w.heap.size + 1) 4 w3 u9 (L.take ((y + 1) * x))) := by rw [Nat.succ_mul]; exact HS
          clear HS
          go_wp2
          go_roundw
          case rel => exact ⟨y + 1, by omega, by go_num, HS2⟩
          case measure => simp [intOf]; omega
    · have : y = m := by omega
      subst this
      have hg1 := HS.out.2
      rw [← HLEN.out, List.take_length] at hg1
      obtain ⟨a2, c2, rfl, -⟩ := hg1.form
      have hmk := l01Make_any a2 c2 y y L wo hm1 (by omega) (by omega) HLEN.out (hg1.own false).row
      rw [HLEN.out] at hmk ⊢
      have HMK := Lib.hid hmk
      have HX3 := Lib.hid HS.out.1.x
      have HO3 := Lib.hid HS.out.1.one
      have hl3 : w.heap.size < wo.heap.size := HO3.out.lt
      have HRL := Lib.hid (picRows_len y y L)
      clear hmk hg1 HS
      go_wp2_with fail
      refine HMK.out.mono ?_
      rintro e w4 ⟨a4, c4, rfl, hx4, ho4⟩
      obtain ⟨r1, r2, r3, HRR⟩ := Res.store (.slice a4 y c4) (HX3.out.trans hx4) (Nat.le_refl _) (HO3.out.ext hx4) hl3 ho4
      clear hx4 ho4
      go_wp2
      exact bodyPost_ret (v := .agg #[.slice a4 y c4]) (by simp [results, Try.results169, go_sem, r3]) rfl ⟨a4, c4, by rw [HRL.out], HRR.out.1, HRR.out.2⟩
set_option maxRecDepth 5000 in
set_option maxHeartbeats 1600000 in
theorem l01Turn1_any (p : Nat) (a : Option Addr) (c : Nat) (ss : List ByteArray) (m : Nat) (w : World) (he : Even ss) (hm1 : 1 ≤ m) (hm16 : m ≤ 16) (hW : picW ss = m) (hH : ss.length = m) (hp : w.cell? ⟨p, 0, none⟩ = some (.slice a m c)) (hr : RowS w a ss) :
    Calls Try.prog 169 #[.pointer (some ⟨p, 0, none⟩), .int .i64 1] w (PicVal w (picRows m m (mkl m m (trnF 1 m (fS ss))))) := by
  obtain ⟨ib, hib, hb0, hb1, hb2⟩ := info_parts Try.infoBoolR
  have HHS : Hid (∀ w', w.Ext w' → Calls Try.prog 120 #[.pointer (some ⟨p, 0, none⟩)] w' fun e w'' => e = .returned (.int .i64 m) ∧ w'.Ext w'') := fun w' hx => l01Height_any p a c m w' (by omega) (hx.cell hp)
  have HWS : Hid (∀ w', w.Ext w' → Calls Try.prog 82 #[.pointer (some ⟨p, 0, none⟩)] w' fun e w'' => e = .returned (.int .i64 m) ∧ w'.Ext w'') := fun w' hx => by
    have h := l01Width_any p a c ss w' he.1 (by omega) (by omega) (by rw [hH]; exact hx.cell hp) (RowOf.ext hr hx)
    rw [hW] at h
    exact h
  have HBL : Hid (∀ w', w.Ext w' → ∀ x y : Nat, x < m → y < m → Calls Try.prog 94 #[.pointer (some ⟨p, 0, none⟩), .int .i64 (x : Int), .int .i64 ((m : Int) - 1 - y)] w' fun e w'' => e = .returned (.bool (trnF 1 m (fS ss) x y)) ∧ w'.Ext w'') := fun w' hx x y h1 h2 => by
    rw [show (x : Int) = ((x : Nat) : Int) from rfl, show ((m : Int) - 1 - y) = ((m - 1 - y : Nat) : Int) from by omega]
    exact l01Black_any p a c ss _ _ w' he (by omega) (by omega) (by rw [hH]; exact hx.cell hp) (RowOf.ext hr hx) _ rfl
  have HAT : Hid (∀ x y : Nat, x < m → y < m → (mkl m m (trnF 1 m (fS ss))).getD (y * m + x) false = trnF 1 m (fS ss) x y) := fun x y h1 h2 => mkl_at _ _ _ x y h1 h2
  have HLEN := Lib.hid (mkl_len m m (trnF 1 m (fS ss)))
  obtain ⟨W0, hW0⟩ : ∃ W0, W0 = w.alloc (.cells #[.slice none 0 0] 26) := ⟨_, rfl⟩
  have hx0 : w.Ext W0 := by rw [hW0]; repeat (first | exact World.Ext.refl _ | exact ⟨_, rfl⟩ | assumption | refine World.Ext.over ?_ _ | refine World.Ext.drewN ?_ _ | refine World.Ext.drew ?_ | refine World.Ext.alloc ?_ _ | refine World.Ext.setCell ?_ (by simp) _)
  have hone : One W0 w.heap.size 26 (.slice none 0 0) := by rw [hW0]; exact One.new _ _ _ _ rfl
  have hsz0 : W0.heap.size = w.heap.size + 1 := by rw [hW0]; simp
  have HX0 := Lib.hid hx0
  have HO := Lib.hid hone
  clear hr he hp hx0 hone hW hH
  generalize mkl m m (trnF 1 m (fS ss)) = L at *
  generalize trnF 1 m (fS ss) = g at *
  go_enter Try.func169, Try.ntmps169
  go_wp2_with fail
  rw [← hW0]
  refine (HWS.out _ HX0.out).mono ?_
  rintro e w1 ⟨rfl, hx1⟩
  have HX1 := Lib.hid (HX0.out.trans hx1)
  have HO1 := Lib.hid (HO.out.ext hx1)
  have hs1 := hx1.size
  clear hx1 hW0 HX0 HO
  go_wp2_with fail
  refine (HHS.out _ HX1.out).mono ?_
  rintro e w2 ⟨rfl, hx2⟩
  have HST : Hid (PixSt w w.heap.size 26 (w2.alloc (.cells #[] 4)) ∧ GrowOf Value.bool (w.heap.size + 1) 4 (w2.alloc (.cells #[] 4)) (.slice (some ⟨w2.heap.size, 0, none⟩) 0 0) []) :=
    ⟨⟨(HX1.out.trans hx2).alloc _, (HO1.out.ext hx2).ext ((World.Ext.refl _).alloc _)⟩, GrowOf.empty w2 (by have := hx2.size; omega)⟩
  clear hx2 HX1 HO1
  go_wp2
  go_loopw [9, 10, 11] (fun v i _ wr => ∃ y : Nat, y ≤ m ∧ i = .int .i64 y ∧ Hid (PixSt w w.heap.size 26 wr ∧ GrowOf Value.bool (w.heap.size + 1) 4 wr v (L.take (y * m)))) (fun _ i _ _ => m - (intOf i).toNat)
  case atStart => exact ⟨0, Nat.zero_le _, rfl, by rw [Nat.zero_mul]; exact HST⟩
  case round =>
    obtain ⟨y, hy, rfl, HS⟩ := hrel
    clear HST
    obtain ⟨wo, rfl⟩ : ∃ wo : World, wo = wr := ⟨_, rfl⟩
    by_cases hlty : y < m
    · have hlty' : (y : Int) < (m : Int) := by omega
      go_wp2
      go_loopw [9, 11] (fun v i wr => ∃ x : Nat, x ≤ m ∧ i = .int .i64 x ∧ Hid (PixSt w w.heap.size 26 wr ∧ GrowOf Value.bool (w.heap.size + 1) 4 wr v (L.take (y * m + x)))) (fun _ i _ => m - (intOf i).toNat)
      case atStart => exact ⟨0, Nat.zero_le _, rfl, HS⟩
      case round =>
        clear HS
        obtain ⟨x, hx, rfl, HS⟩ := hrel
        obtain ⟨w3, rfl⟩ : ∃ w3 : World, w3 = wr := ⟨_, rfl⟩
        by_cases hltx : x < m
        · have hltx' : (x : Int) < (m : Int) := by omega
          have HC := Lib.hid (fun w' hx => HBL.out w' hx x y hltx hlty)
          have hk : y * m + x < L.length := by rw [HLEN.out]; exact idx2 hltx hlty
          have hsum : L.length ≤ 256 := by rw [HLEN.out]; exact Nat.mul_le_mul hm16 hm16
          have hlen : (L.take (y * m + x)).length = y * m + x := by simp; omega
          have HQ : Hid (L.take (y * m + (x + 1)) = L.take (y * m + x) ++ [g x y]) := by show _ = _; rw [← Nat.add_assoc, take_next hk, HAT.out x y hltx hlty]
          have HB1 : Hid ((L.take (y * m + x)).length + 1 ≤ maxLen) := by show _ ≤ _; rw [hlen]; unfold maxLen; omega
          have HB2 : Hid (((L.take (y * m + x)).length + 1) * 1 ≤ 140737488355328) := by show _ ≤ _; rw [hlen]; omega
          clear hlen hk hsum
          generalize g x y = bt at *
          go_wp2_with fail
          refine (HC.out _ HS.out.1.x).mono ?_
          rintro e w4 ⟨rfl, hx4⟩
          have HS2 := Lib.hid (And.intro (HS.out.1.ext hx4) (HS.out.2.ext hx4))
          clear hx4 HS HC
          have HNEXT : Hid (∀ (o : Obj) (v' : Value) (w1 : World), (w4.alloc o).grownBy w1 u9.ownBlock → w1.ownsRow (w.heap.size + 1) 4 1 v' ((L.take (y * m + x)).length + 1) ((L.take (y * m + x)).map Value.bool ++ [.bool bt]) → Hid (PixSt w w.heap.size 26 w1 ∧ GrowOf Value.bool (w.heap.size + 1) 4 w1 v' (L.take (y * m + (x + 1))))) := fun o v' w1 hgrow hown' => by
            have hg := GrowOf.push hown'
            rw [← HQ.out] at hg
            refine ⟨⟨(HS2.out.1.x.alloc o).grown hgrow fun k hk => ?_, (HS2.out.1.one.ext ((World.Ext.refl _).alloc o)).grown hgrow (HS2.out.2.ne HS2.out.1.one (by decide))⟩, hg⟩
            have := (HS2.out.2.block hk).1
            omega
          have hown := HS2.out.2
          unfold GrowOf at hown
          have HLE : ∀ o' : Obj, w.heap.size + 1 ≤ (w4.alloc o').heap.size := fun o' => by have := HS2.out.1.one.lt; simp; omega
          clear HS2 HQ
          generalize L.take (y * m + x) = pre at *
          go_wp2_with ((at_builtin; refine wpList_append_own _ rfl _ _ 59 rfl (w.heap.size + 1) 4 ib (.bool false) 1 1 Try.underlying59 hib hb0 hb1 hb2 rfl (by decide) _ _ _ rfl (hown.alloc _) ⟨w4.heap.size, 0, none⟩ 1 1 [.bool bt] rfl rfl (cell_one_new _ _ _) (by simp [Value.oneCell']) HB1.out HB2.out (HLE _) (fun v' w1 hown' hgrow _ => ?_)); have HS4 := HNEXT.out _ _ _ hgrow hown'; clear hgrow hown' hown)
          go_roundw
          case rel => exact ⟨x + 1, by omega, by go_num, HS4⟩
          case measure => simp [intOf]; omega
        · have : x = m := by omega
          subst this
          have HS2 : Hid (PixSt w w.heap.size 26 w3 ∧ GrowOf Value.bool (w.heap.size + 1) 4 w3 u9 (L.take ((y + 1) * x))) := by rw [Nat.succ_mul]; exact HS
          clear HS
          go_wp2
          go_roundw
          case rel => exact ⟨y + 1, by omega, by go_num, HS2⟩
          case measure => simp [intOf]; omega
    · have : y = m := by omega
      subst this
      have hg1 := HS.out.2
      rw [← HLEN.out, List.take_length] at hg1
      obtain ⟨a2, c2, rfl, -⟩ := hg1.form
      have hmk := l01Make_any a2 c2 y y L wo hm1 (by omega) (by omega) HLEN.out (hg1.own false).row
      rw [HLEN.out] at hmk ⊢
      have HMK := Lib.hid hmk
      have HX3 := Lib.hid HS.out.1.x
      have HO3 := Lib.hid HS.out.1.one
      have hl3 : w.heap.size < wo.heap.size := HO3.out.lt
      have HRL := Lib.hid (picRows_len y y L)
      clear hmk hg1 HS
      go_wp2_with fail
      refine HMK.out.mono ?_
      rintro e w4 ⟨a4, c4, rfl, hx4, ho4⟩
      obtain ⟨r1, r2, r3, HRR⟩ := Res.store (.slice a4 y c4) (HX3.out.trans hx4) (Nat.le_refl _) (HO3.out.ext hx4) hl3 ho4
      clear hx4 ho4
      go_wp2
      exact bodyPost_ret (v := .agg #[.slice a4 y c4]) (by simp [results, Try.results169, go_sem, r3]) rfl ⟨a4, c4, by rw [HRL.out], HRR.out.1, HRR.out.2⟩
set_option maxRecDepth 5000 in
set_option maxHeartbeats 1600000 in
theorem l01Turn2_any (p : Nat) (a : Option Addr) (c : Nat) (ss : List ByteArray) (m : Nat) (w : World) (he : Even ss) (hm1 : 1 ≤ m) (hm16 : m ≤ 16) (hW : picW ss = m) (hH : ss.length = m) (hp : w.cell? ⟨p, 0, none⟩ = some (.slice a m c)) (hr : RowS w a ss) :
    Calls Try.prog 169 #[.pointer (some ⟨p, 0, none⟩), .int .i64 2] w (PicVal w (picRows m m (mkl m m (trnF 2 m (fS ss))))) := by
  obtain ⟨ib, hib, hb0, hb1, hb2⟩ := info_parts Try.infoBoolR
  have HHS : Hid (∀ w', w.Ext w' → Calls Try.prog 120 #[.pointer (some ⟨p, 0, none⟩)] w' fun e w'' => e = .returned (.int .i64 m) ∧ w'.Ext w'') := fun w' hx => l01Height_any p a c m w' (by omega) (hx.cell hp)
  have HWS : Hid (∀ w', w.Ext w' → Calls Try.prog 82 #[.pointer (some ⟨p, 0, none⟩)] w' fun e w'' => e = .returned (.int .i64 m) ∧ w'.Ext w'') := fun w' hx => by
    have h := l01Width_any p a c ss w' he.1 (by omega) (by omega) (by rw [hH]; exact hx.cell hp) (RowOf.ext hr hx)
    rw [hW] at h
    exact h
  have HBL : Hid (∀ w', w.Ext w' → ∀ x y : Nat, x < m → y < m → Calls Try.prog 94 #[.pointer (some ⟨p, 0, none⟩), .int .i64 (y : Int), .int .i64 (x : Int)] w' fun e w'' => e = .returned (.bool (trnF 2 m (fS ss) x y)) ∧ w'.Ext w'') := fun w' hx x y h1 h2 => by
    rw [show (y : Int) = ((y : Nat) : Int) from rfl, show (x : Int) = ((x : Nat) : Int) from rfl]
    exact l01Black_any p a c ss _ _ w' he (by omega) (by omega) (by rw [hH]; exact hx.cell hp) (RowOf.ext hr hx) _ rfl
  have HAT : Hid (∀ x y : Nat, x < m → y < m → (mkl m m (trnF 2 m (fS ss))).getD (y * m + x) false = trnF 2 m (fS ss) x y) := fun x y h1 h2 => mkl_at _ _ _ x y h1 h2
  have HLEN := Lib.hid (mkl_len m m (trnF 2 m (fS ss)))
  obtain ⟨W0, hW0⟩ : ∃ W0, W0 = w.alloc (.cells #[.slice none 0 0] 26) := ⟨_, rfl⟩
  have hx0 : w.Ext W0 := by rw [hW0]; repeat (first | exact World.Ext.refl _ | exact ⟨_, rfl⟩ | assumption | refine World.Ext.over ?_ _ | refine World.Ext.drewN ?_ _ | refine World.Ext.drew ?_ | refine World.Ext.alloc ?_ _ | refine World.Ext.setCell ?_ (by simp) _)
  have hone : One W0 w.heap.size 26 (.slice none 0 0) := by rw [hW0]; exact One.new _ _ _ _ rfl
  have hsz0 : W0.heap.size = w.heap.size + 1 := by rw [hW0]; simp
  have HX0 := Lib.hid hx0
  have HO := Lib.hid hone
  clear hr he hp hx0 hone hW hH
  generalize mkl m m (trnF 2 m (fS ss)) = L at *
  generalize trnF 2 m (fS ss) = g at *
  go_enter Try.func169, Try.ntmps169
  go_wp2_with fail
  rw [← hW0]
  refine (HWS.out _ HX0.out).mono ?_
  rintro e w1 ⟨rfl, hx1⟩
  have HX1 := Lib.hid (HX0.out.trans hx1)
  have HO1 := Lib.hid (HO.out.ext hx1)
  have hs1 := hx1.size
  clear hx1 hW0 HX0 HO
  go_wp2_with fail
  refine (HHS.out _ HX1.out).mono ?_
  rintro e w2 ⟨rfl, hx2⟩
  have HST : Hid (PixSt w w.heap.size 26 (w2.alloc (.cells #[] 4)) ∧ GrowOf Value.bool (w.heap.size + 1) 4 (w2.alloc (.cells #[] 4)) (.slice (some ⟨w2.heap.size, 0, none⟩) 0 0) []) :=
    ⟨⟨(HX1.out.trans hx2).alloc _, (HO1.out.ext hx2).ext ((World.Ext.refl _).alloc _)⟩, GrowOf.empty w2 (by have := hx2.size; omega)⟩
  clear hx2 HX1 HO1
  go_wp2
  go_loopw [9, 10, 11] (fun v i _ wr => ∃ y : Nat, y ≤ m ∧ i = .int .i64 y ∧ Hid (PixSt w w.heap.size 26 wr ∧ GrowOf Value.bool (w.heap.size + 1) 4 wr v (L.take (y * m)))) (fun _ i _ _ => m - (intOf i).toNat)
  case atStart => exact ⟨0, Nat.zero_le _, rfl, by rw [Nat.zero_mul]; exact HST⟩
  case round =>
    obtain ⟨y, hy, rfl, HS⟩ := hrel
    clear HST
    obtain ⟨wo, rfl⟩ : ∃ wo : World, wo = wr := ⟨_, rfl⟩
    by_cases hlty : y < m
    · have hlty' : (y : Int) < (m : Int) := by omega
      go_wp2
      go_loopw [9, 11] (fun v i wr => ∃ x : Nat, x ≤ m ∧ i = .int .i64 x ∧ Hid (PixSt w w.heap.size 26 wr ∧ GrowOf Value.bool (w.heap.size + 1) 4 wr v (L.take (y * m + x)))) (fun _ i _ => m - (intOf i).toNat)
      case atStart => exact ⟨0, Nat.zero_le _, rfl, HS⟩
      case round =>
        clear HS
        obtain ⟨x, hx, rfl, HS⟩ := hrel
        obtain ⟨w3, rfl⟩ : ∃ w3 : World, w3 = wr := ⟨_, rfl⟩
        by_cases hltx : x < m
        · have hltx' : (x : Int) < (m : Int) := by omega
          have HC := Lib.hid (fun w' hx => HBL.out w' hx x y hltx hlty)
          have hk : y * m + x < L.length := by rw [HLEN.out]; exact idx2 hltx hlty
          have hsum : L.length ≤ 256 := by rw [HLEN.out]; exact Nat.mul_le_mul hm16 hm16
          have hlen : (L.take (y * m + x)).length = y * m + x := by simp; omega
          have HQ : Hid (L.take (y * m + (x + 1)) = L.take (y * m + x) ++ [g x y]) := by show _ = _; rw [← Nat.add_assoc, take_next hk, HAT.out x y hltx hlty]
          have HB1 : Hid ((L.take (y * m + x)).length + 1 ≤ maxLen) := by show _ ≤ _; rw [hlen]; unfold maxLen; omega
          have HB2 : Hid (((L.take (y * m + x)).length + 1) * 1 ≤ 140737488355328) := by show _ ≤ _; rw [hlen]; omega
          clear hlen hk hsum
          generalize g x y = bt at *
          go_wp2_with fail
          refine (HC.out _ HS.out.1.x).mono ?_
          rintro e w4 ⟨rfl, hx4⟩
          have HS2 := Lib.hid (And.intro (HS.out.1.ext hx4) (HS.out.2.ext hx4))
          clear hx4 HS HC
          have HNEXT : Hid (∀ (o : Obj) (v' : Value) (w1 : World), (w4.alloc o).grownBy w1 u9.ownBlock → w1.ownsRow (w.heap.size + 1) 4 1 v' ((L.take (y * m + x)).length + 1) ((L.take (y * m + x)).map Value.bool ++ [.bool bt]) → Hid (PixSt w w.heap.size 26 w1 ∧ GrowOf Value.bool (w.heap.size + 1) 4 w1 v' (L.take (y * m + (x + 1))))) := fun o v' w1 hgrow hown' => by
            have hg := GrowOf.push hown'
            rw [← HQ.out] at hg
            refine ⟨⟨(HS2.out.1.x.alloc o).grown hgrow fun k hk => ?_, (HS2.out.1.one.ext ((World.Ext.refl _).alloc o)).grown hgrow (HS2.out.2.ne HS2.out.1.one (by decide))⟩, hg⟩
            have := (HS2.out.2.block hk).1
            omega
          have hown := HS2.out.2
          unfold GrowOf at hown
          have HLE : ∀ o' : Obj, w.heap.size + 1 ≤ (w4.alloc o').heap.size := fun o' => by have := HS2.out.1.one.lt; simp; omega
          clear HS2 HQ
          generalize L.take (y * m + x) = pre at *
          go_wp2_with ((at_builtin; refine wpList_append_own _ rfl _ _ 59 rfl (w.heap.size + 1) 4 ib (.bool false) 1 1 Try.underlying59 hib hb0 hb1 hb2 rfl (by decide) _ _ _ rfl (hown.alloc _) ⟨w4.heap.size, 0, none⟩ 1 1 [.bool bt] rfl rfl (cell_one_new _ _ _) (by simp [Value.oneCell']) HB1.out HB2.out (HLE _) (fun v' w1 hown' hgrow _ => ?_)); have HS4 := HNEXT.out _ _ _ hgrow hown'; clear hgrow hown' hown)
          go_roundw
          case rel => exact ⟨x + 1, by omega, by go_num, HS4⟩
          case measure => simp [intOf]; omega
        · have : x = m := by omega
          subst this
          have HS2 : Hid (PixSt w w.heap.size 26 w3 ∧ GrowOf Value.bool (w.heap.size + 1) 4 w3 u9 (L.take ((y + 1) * x))) := by rw [Nat.succ_mul]; exact HS
          clear HS
          go_wp2
          go_roundw
          case rel => exact ⟨y + 1, by omega, by go_num, HS2⟩
          case measure => simp [intOf]; omega
    · have : y = m := by omega
      subst this
      have hg1 := HS.out.2
      rw [← HLEN.out, List.take_length] at hg1
      obtain ⟨a2, c2, rfl, -⟩ := hg1.form
      have hmk := l01Make_any a2 c2 y y L wo hm1 (by omega) (by omega) HLEN.out (hg1.own false).row
      rw [HLEN.out] at hmk ⊢
      have HMK := Lib.hid hmk
      have HX3 := Lib.hid HS.out.1.x
      have HO3 := Lib.hid HS.out.1.one
      have hl3 : w.heap.size < wo.heap.size := HO3.out.lt
      have HRL := Lib.hid (picRows_len y y L)
      clear hmk hg1 HS
      go_wp2_with fail
      refine HMK.out.mono ?_
      rintro e w4 ⟨a4, c4, rfl, hx4, ho4⟩
      obtain ⟨r1, r2, r3, HRR⟩ := Res.store (.slice a4 y c4) (HX3.out.trans hx4) (Nat.le_refl _) (HO3.out.ext hx4) hl3 ho4
      clear hx4 ho4
      go_wp2
      exact bodyPost_ret (v := .agg #[.slice a4 y c4]) (by simp [results, Try.results169, go_sem, r3]) rfl ⟨a4, c4, by rw [HRL.out], HRR.out.1, HRR.out.2⟩
set_option maxRecDepth 5000 in
set_option maxHeartbeats 1600000 in
theorem l01Turn3_any (p : Nat) (a : Option Addr) (c : Nat) (ss : List ByteArray) (m : Nat) (w : World) (he : Even ss) (hm1 : 1 ≤ m) (hm16 : m ≤ 16) (hW : picW ss = m) (hH : ss.length = m) (hp : w.cell? ⟨p, 0, none⟩ = some (.slice a m c)) (hr : RowS w a ss) :
    Calls Try.prog 169 #[.pointer (some ⟨p, 0, none⟩), .int .i64 3] w (PicVal w (picRows m m (mkl m m (trnF 3 m (fS ss))))) := by
  obtain ⟨ib, hib, hb0, hb1, hb2⟩ := info_parts Try.infoBoolR
  have HHS : Hid (∀ w', w.Ext w' → Calls Try.prog 120 #[.pointer (some ⟨p, 0, none⟩)] w' fun e w'' => e = .returned (.int .i64 m) ∧ w'.Ext w'') := fun w' hx => l01Height_any p a c m w' (by omega) (hx.cell hp)
  have HWS : Hid (∀ w', w.Ext w' → Calls Try.prog 82 #[.pointer (some ⟨p, 0, none⟩)] w' fun e w'' => e = .returned (.int .i64 m) ∧ w'.Ext w'') := fun w' hx => by
    have h := l01Width_any p a c ss w' he.1 (by omega) (by omega) (by rw [hH]; exact hx.cell hp) (RowOf.ext hr hx)
    rw [hW] at h
    exact h
  have HBL : Hid (∀ w', w.Ext w' → ∀ x y : Nat, x < m → y < m → Calls Try.prog 94 #[.pointer (some ⟨p, 0, none⟩), .int .i64 (y : Int), .int .i64 ((m : Int) - 1 - x)] w' fun e w'' => e = .returned (.bool (trnF 3 m (fS ss) x y)) ∧ w'.Ext w'') := fun w' hx x y h1 h2 => by
    rw [show (y : Int) = ((y : Nat) : Int) from rfl, show ((m : Int) - 1 - x) = ((m - 1 - x : Nat) : Int) from by omega]
    exact l01Black_any p a c ss _ _ w' he (by omega) (by omega) (by rw [hH]; exact hx.cell hp) (RowOf.ext hr hx) _ rfl
  have HAT : Hid (∀ x y : Nat, x < m → y < m → (mkl m m (trnF 3 m (fS ss))).getD (y * m + x) false = trnF 3 m (fS ss) x y) := fun x y h1 h2 => mkl_at _ _ _ x y h1 h2
  have HLEN := Lib.hid (mkl_len m m (trnF 3 m (fS ss)))
  obtain ⟨W0, hW0⟩ : ∃ W0, W0 = w.alloc (.cells #[.slice none 0 0] 26) := ⟨_, rfl⟩
  have hx0 : w.Ext W0 := by rw [hW0]; repeat (first | exact World.Ext.refl _ | exact ⟨_, rfl⟩ | assumption | refine World.Ext.over ?_ _ | refine World.Ext.drewN ?_ _ | refine World.Ext.drew ?_ | refine World.Ext.alloc ?_ _ | refine World.Ext.setCell ?_ (by simp) _)
  have hone : One W0 w.heap.size 26 (.slice none 0 0) := by rw [hW0]; exact One.new _ _ _ _ rfl
  have hsz0 : W0.heap.size = w.heap.size + 1 := by rw [hW0]; simp
  have HX0 := Lib.hid hx0
  have HO := Lib.hid hone
  clear hr he hp hx0 hone hW hH
  generalize mkl m m (trnF 3 m (fS ss)) = L at *
  generalize trnF 3 m (fS ss) = g at *
  go_enter Try.func169, Try.ntmps169
  go_wp2_with fail
  rw [← hW0]
  refine (HWS.out _ HX0.out).mono ?_
  rintro e w1 ⟨rfl, hx1⟩
  have HX1 := Lib.hid (HX0.out.trans hx1)
  have HO1 := Lib.hid (HO.out.ext hx1)
  have hs1 := hx1.size
  clear hx1 hW0 HX0 HO
  go_wp2_with fail
  refine (HHS.out _ HX1.out).mono ?_
  rintro e w2 ⟨rfl, hx2⟩
  have HST : Hid (PixSt w w.heap.size 26 (w2.alloc (.cells #[] 4)) ∧ GrowOf Value.bool (w.heap.size + 1) 4 (w2.alloc (.cells #[] 4)) (.slice (some ⟨w2.heap.size, 0, none⟩) 0 0) []) :=
    ⟨⟨(HX1.out.trans hx2).alloc _, (HO1.out.ext hx2).ext ((World.Ext.refl _).alloc _)⟩, GrowOf.empty w2 (by have := hx2.size; omega)⟩
  clear hx2 HX1 HO1
  go_wp2
  go_loopw [9, 10, 11] (fun v i _ wr => ∃ y : Nat, y ≤ m ∧ i = .int .i64 y ∧ Hid (PixSt w w.heap.size 26 wr ∧ GrowOf Value.bool (w.heap.size + 1) 4 wr v (L.take (y * m)))) (fun _ i _ _ => m - (intOf i).toNat)
  case atStart => exact ⟨0, Nat.zero_le _, rfl, by rw [Nat.zero_mul]; exact HST⟩
  case round =>
    obtain ⟨y, hy, rfl, HS⟩ := hrel
    clear HST
    obtain ⟨wo, rfl⟩ : ∃ wo : World, wo = wr := ⟨_, rfl⟩
    by_cases hlty : y < m
    · have hlty' : (y : Int) < (m : Int) := by omega
      go_wp2
      go_loopw [9, 11] (fun v i wr => ∃ x : Nat, x ≤ m ∧ i = .int .i64 x ∧ Hid (PixSt w w.heap.size 26 wr ∧ GrowOf Value.bool (w.heap.size + 1) 4 wr v (L.take (y * m + x)))) (fun _ i _ => m - (intOf i).toNat)
      case atStart => exact ⟨0, Nat.zero_le _, rfl, HS⟩
      case round =>
        clear HS
        obtain ⟨x, hx, rfl, HS⟩ := hrel
        obtain ⟨w3, rfl⟩ : ∃ w3 : World, w3 = wr := ⟨_, rfl⟩
        by_cases hltx : x < m
        · have hltx' : (x : Int) < (m : Int) := by omega
          have HC := Lib.hid (fun w' hx => HBL.out w' hx x y hltx hlty)
          have hk : y * m + x < L.length := by rw [HLEN.out]; exact idx2 hltx hlty
          have hsum : L.length ≤ 256 := by rw [HLEN.out]; exact Nat.mul_le_mul hm16 hm16
          have hlen : (L.take (y * m + x)).length = y * m + x := by simp; omega
          have HQ : Hid (L.take (y * m + (x + 1)) = L.take (y * m + x) ++ [g x y]) := by show _ = _; rw [← Nat.add_assoc, take_next hk, HAT.out x y hltx hlty]
          have HB1 : Hid ((L.take (y * m + x)).length + 1 ≤ maxLen) := by show _ ≤ _; rw [hlen]; unfold maxLen; omega
          have HB2 : Hid (((L.take (y * m + x)).length + 1) * 1 ≤ 140737488355328) := by show _ ≤ _; rw [hlen]; omega
          clear hlen hk hsum
          generalize g x y = bt at *
          go_wp2_with fail
          refine (HC.out _ HS.out.1.x).mono ?_
          rintro e w4 ⟨rfl, hx4⟩
          have HS2 := Lib.hid (And.intro (HS.out.1.ext hx4) (HS.out.2.ext hx4))
          clear hx4 HS HC
          have HNEXT : Hid (∀ (o : Obj) (v' : Value) (w1 : World), (w4.alloc o).grownBy w1 u9.ownBlock → w1.ownsRow (w.heap.size + 1) 4 1 v' ((L.take (y * m + x)).length + 1) ((L.take (y * m + x)).map Value.bool ++ [.bool bt]) → Hid (PixSt w w.heap.size 26 w1 ∧ GrowOf Value.bool (w.heap.size + 1) 4 w1 v' (L.take (y * m + (x + 1))))) := fun o v' w1 hgrow hown' => by
            have hg := GrowOf.push hown'
            rw [← HQ.out] at hg
            refine ⟨⟨(HS2.out.1.x.alloc o).grown hgrow fun k hk => ?_, (HS2.out.1.one.ext ((World.Ext.refl _).alloc o)).grown hgrow (HS2.out.2.ne HS2.out.1.one (by decide))⟩, hg⟩
            have := (HS2.out.2.block hk).1
            omega
          have hown := HS2.out.2
          unfold GrowOf at hown
          have HLE : ∀ o' : Obj, w.heap.size + 1 ≤ (w4.alloc o').heap.size := fun o' => by have := HS2.out.1.one.lt; simp; omega
          clear HS2 HQ
          generalize L.take (y * m + x) = pre at *
          go_wp2_with ((at_builtin; refine wpList_append_own _ rfl _ _ 59 rfl (w.heap.size + 1) 4 ib (.bool false) 1 1 Try.underlying59 hib hb0 hb1 hb2 rfl (by decide) _ _ _ rfl (hown.alloc _) ⟨w4.heap.size, 0, none⟩ 1 1 [.bool bt] rfl rfl (cell_one_new _ _ _) (by simp [Value.oneCell']) HB1.out HB2.out (HLE _) (fun v' w1 hown' hgrow _ => ?_)); have HS4 := HNEXT.out _ _ _ hgrow hown'; clear hgrow hown' hown)
          go_roundw
          case rel => exact ⟨x + 1, by omega, by go_num, HS4⟩
          case measure => simp [intOf]; omega
        · have : x = m := by omega
          subst this
          have HS2 : Hid (PixSt w w.heap.size 26 w3 ∧ GrowOf Value.bool (w.heap.size + 1) 4 w3 u9 (L.take ((y + 1) * x))) := by rw [Nat.succ_mul]; exact HS
          clear HS
          go_wp2
          go_roundw
          case rel => exact ⟨y + 1, by omega, by go_num, HS2⟩
          case measure => simp [intOf]; omega
    · have : y = m := by omega
      subst this
      have hg1 := HS.out.2
      rw [← HLEN.out, List.take_length] at hg1
      obtain ⟨a2, c2, rfl, -⟩ := hg1.form
      have hmk := l01Make_any a2 c2 y y L wo hm1 (by omega) (by omega) HLEN.out (hg1.own false).row
      rw [HLEN.out] at hmk ⊢
      have HMK := Lib.hid hmk
      have HX3 := Lib.hid HS.out.1.x
      have HO3 := Lib.hid HS.out.1.one
      have hl3 : w.heap.size < wo.heap.size := HO3.out.lt
      have HRL := Lib.hid (picRows_len y y L)
      clear hmk hg1 HS
      go_wp2_with fail
      refine HMK.out.mono ?_
      rintro e w4 ⟨a4, c4, rfl, hx4, ho4⟩
      obtain ⟨r1, r2, r3, HRR⟩ := Res.store (.slice a4 y c4) (HX3.out.trans hx4) (Nat.le_refl _) (HO3.out.ext hx4) hl3 ho4
      clear hx4 ho4
      go_wp2
      exact bodyPost_ret (v := .agg #[.slice a4 y c4]) (by simp [results, Try.results169, go_sem, r3]) rfl ⟨a4, c4, by rw [HRL.out], HRR.out.1, HRR.out.2⟩
/-- A list that becomes another one, from the left. -/
def mixT (l r : List Bool) (k : Nat) : List Bool := r.take k ++ l.drop k
theorem mixT_len {l r : List Bool} (h : r.length = l.length) (k : Nat) : (mixT l r k).length = l.length := by unfold mixT; simp; omega
theorem mixT_at {l r : List Bool} (h : r.length = l.length) {k : Nat} (hk : k < l.length) : (mixT l r k).getD k false = l.getD k false := by
  unfold mixT
  have h1 : (r.take k).length = k := by simp; omega
  rw [List.getD_eq_getElem?_getD, List.getElem?_append_right (by omega), h1, Nat.sub_self, List.getElem?_drop, Nat.add_zero, ← List.getD_eq_getElem?_getD]
theorem mixT_set {l r : List Bool} (h : r.length = l.length) {k : Nat} (hk : k < l.length) : (mixT l r k).set k (r.getD k false) = mixT l r (k + 1) := by
  unfold mixT
  have h1 : (r.take k).length = k := by simp; omega
  have e2 : r.getD k false = r[k] := by rw [List.getD_eq_getElem?_getD, List.getElem?_eq_getElem (by omega)]; rfl
  rw [List.set_append_right _ _ (by omega), h1, Nat.sub_self, List.take_succ_eq_append_getElem (by omega), List.append_assoc, List.drop_eq_getElem_cons hk, List.set_cons_zero, e2]
  rfl
theorem mixT_all {l r : List Bool} (h : r.length = l.length) : mixT l r l.length = r := by unfold mixT; rw [← h, List.take_length, h, List.drop_length, List.append_nil]
structure JnSt (w : World) (p g cap n : Nat) (l : List Bool) (wr : World) : Prop where
  x : w.Ext wr
  one : One wr p 26 (.slice none 0 0)
  grow : GrowOf Value.bool (w.heap.size + 1) 4 wr (.slice (some ⟨g, 0, none⟩) n cap) l
structure JoSt (w : World) (p g cap g2 cap2 n : Nat) (l l2 : List Bool) (wr : World) : Prop where
  inv : JnSt w p g cap n l wr
  oth : GrowOf Value.bool (g + 1) 4 wr (.slice (some ⟨g2, 0, none⟩) n cap2) l2
  lt : g < g2
theorem JoSt.ext {w : World} {p g cap g2 cap2 n : Nat} {l l2 : List Bool} {wr w' : World} (h : JoSt w p g cap g2 cap2 n l l2 wr) (hx : wr.Ext w') : JoSt w p g cap g2 cap2 n l l2 w' :=
  ⟨⟨h.inv.x.trans hx, h.inv.one.ext hx, h.inv.grow.ext hx⟩, h.oth.ext hx, h.lt⟩
theorem JoSt.at {w : World} {p g cap g2 cap2 n : Nat} {l l2 : List Bool} {wr : World} (h : JoSt w p g cap g2 cap2 n l l2 wr) (hpw : p = w.heap.size) (hg : w.heap.size < g) {k : Nat} (hk : k < l.length) (hk2 : k < l2.length) :
    wr.cell? ⟨g, k, none⟩ = some (.bool (l.getD k false)) ∧ wr.frozen? ⟨g, k, none⟩ = false ∧ wr.cell? ⟨g2, k, none⟩ = some (.bool (l2.getD k false)) ∧ ∀ b, JoSt w p g cap g2 cap2 n (l.set k b) l2 (wr.setCell ⟨g, k, none⟩ (.bool b)) := by
  obtain ⟨g', cap', hv, hlo, hc, hf, hset⟩ := GrowOf.atI false h.inv.grow (i := k) hk
  simp only [Value.slice.injEq, Option.some.injEq, Addr.mk.injEq] at hv
  obtain ⟨⟨rfl, -, -⟩, -, -⟩ := hv
  obtain ⟨g', cap', hv, -, hc2, -, -⟩ := GrowOf.atI false h.oth (i := k) hk2
  simp only [Value.slice.injEq, Option.some.injEq, Addr.mk.injEq] at hv
  obtain ⟨⟨rfl, -, -⟩, -, -⟩ := hv
  have hlt := h.lt
  exact ⟨hc, hf, hc2, fun b => ⟨⟨h.inv.x.setCell (p := ⟨g, k, none⟩) (by dsimp only; omega) _, h.inv.one.other (a := ⟨g, k, none⟩) (by dsimp only; omega) _, hset b⟩,
    h.oth.setCell (a := ⟨g, k, none⟩) (by simp [Value.ownBlock]; omega) _, h.lt⟩⟩
set_option maxRecDepth 5000 in
set_option maxHeartbeats 1600000 in
theorem l01Join0_any (p q : Nat) (a : Option Addr) (c : Nat) (ss : List ByteArray) (a' : Option Addr) (c' : Nat) (tt : List ByteArray) (m : Nat) (w : World) (he : Even ss) (he' : Even tt) (hm1 : 1 ≤ m) (hm16 : m ≤ 16) (hW : picW ss = m) (hH : ss.length = m) (hW' : picW tt = m) (hH' : tt.length = m)
    (hp : w.cell? ⟨p, 0, none⟩ = some (.slice a m c)) (hr : RowS w a ss) (hq : w.cell? ⟨q, 0, none⟩ = some (.slice a' m c')) (hr' : RowS w a' tt) :
    Calls Try.prog 174 #[.int .i64 0, .pointer (some ⟨p, 0, none⟩), .pointer (some ⟨q, 0, none⟩)] w (PicVal w (picRows m m (mkl m m fun i j => joinB 0 (fS ss i j) (fS tt i j)))) := by
  have HWS : Hid (∀ w', w.Ext w' → Calls Try.prog 82 #[.pointer (some ⟨p, 0, none⟩)] w' fun e w'' => e = .returned (.int .i64 m) ∧ w'.Ext w'') := fun w' hx => by
    have h := l01Width_any p a c ss w' he.1 (by omega) (by omega) (by rw [hH]; exact hx.cell hp) (RowOf.ext hr hx)
    rw [hW] at h
    exact h
  have HL1 : Hid (∀ w', w.Ext w' → Calls Try.prog 137 #[.pointer (some ⟨p, 0, none⟩)] w' fun e w'' => ∃ v, e = .returned v ∧ BlSt w' v (picL ss) w'') := fun w' hx => l01List_any p a c ss w' he (by omega) (by omega) (by rw [hH]; exact hx.cell hp) (RowOf.ext hr hx)
  have HL2 : Hid (∀ w', w.Ext w' → Calls Try.prog 137 #[.pointer (some ⟨q, 0, none⟩)] w' fun e w'' => ∃ v, e = .returned v ∧ BlSt w' v (picL tt) w'') := fun w' hx => l01List_any q a' c' tt w' he' (by omega) (by omega) (by rw [hH']; exact hx.cell hq) (RowOf.ext hr' hx)
  have hl1 : (picL ss).length = m * m := by rw [picL_len he, hW, hH]
  have hl2 : (picL tt).length = m * m := by rw [picL_len he', hW', hH']
  have hlr : (mkl m m fun i j => joinB 0 (fS ss i j) (fS tt i j)).length = m * m := mkl_len _ _ _
  have HAT : Hid (∀ k, k < m * m → (mkl m m fun i j => joinB 0 (fS ss i j) (fS tt i j)).getD k false = joinB 0 ((picL ss).getD k false) ((picL tt).getD k false)) := fun k hk => by
    have hx : k % m < m := Nat.mod_lt _ hm1
    have hy : k / m < m := (Nat.div_lt_iff_lt_mul hm1).2 hk
    have e : k / m * m + k % m = k := by rw [Nat.mul_comm]; exact Nat.div_add_mod k m
    have h1 := mkl_at m m (fun i j => joinB 0 (fS ss i j) (fS tt i j)) (k % m) (k / m) hx hy
    have h2 : fS ss (k % m) (k / m) = (picL ss).getD k false := by unfold fS; rw [hW, hH, pxl_at _ _ _ _ _ hx hy, e]
    have h3 : fS tt (k % m) (k / m) = (picL tt).getD k false := by unfold fS; rw [hW', hH', pxl_at _ _ _ _ _ hx hy, e]
    rw [e, h2, h3] at h1
    exact h1
  have hmm : m * m ≤ 256 := Nat.mul_le_mul hm16 hm16
  have hmm1 : 1 ≤ m * m := Nat.mul_le_mul hm1 hm1
  obtain ⟨W0, hW0⟩ : ∃ W0, W0 = w.alloc (.cells #[.slice none 0 0] 26) := ⟨_, rfl⟩
  have hx0 : w.Ext W0 := by rw [hW0]; repeat (first | exact World.Ext.refl _ | exact ⟨_, rfl⟩ | assumption | refine World.Ext.over ?_ _ | refine World.Ext.drewN ?_ _ | refine World.Ext.drew ?_ | refine World.Ext.alloc ?_ _ | refine World.Ext.setCell ?_ (by simp) _)
  have hone : One W0 w.heap.size 26 (.slice none 0 0) := by rw [hW0]; exact One.new _ _ _ _ rfl
  have hsz0 : W0.heap.size = w.heap.size + 1 := by rw [hW0]; simp
  have HX0 := Lib.hid hx0
  have HO := Lib.hid hone
  have HLR := Lib.hid hlr
  clear hr he hp hr' he' hq hx0 hone hW hH hW' hH' hlr
  generalize (mkl m m fun i j => joinB 0 (fS ss i j) (fS tt i j)) = R at *
  generalize picL ss = L1 at *
  generalize picL tt = L2 at *
  obtain ⟨n, hn⟩ : ∃ n, n = m * m := ⟨_, rfl⟩
  rw [← hn] at hl1 hl2 hmm hmm1 HAT
  have HRn : Hid (R.length = L1.length) := by show _ = _; rw [HLR.out, hl1, hn]
  have HN := Lib.hid hn
  have HL1n := Lib.hid hl1
  have HL2n := Lib.hid hl2
  clear hn hl1 hl2
  go_enter Try.func174, Try.ntmps174
  go_wp2_with fail
  rw [← hW0]
  refine (HL1.out _ HX0.out).mono ?_
  rintro e w1 ⟨v1, rfl, hx1, hg1⟩
  obtain ⟨g, cap, rfl, hglo, -, -, -⟩ := GrowOf.atI false hg1 (i := 0) (by rw [HL1n.out]; exact hmm1)
  have hgl := (hg1.block (k := g) rfl).2
  have HX1 := Lib.hid (HX0.out.trans hx1)
  have HO1 := Lib.hid (HO.out.ext hx1)
  have HG1 := Lib.hid hg1
  clear hx1 hg1 hW0 HX0 HO
  go_wp2_with fail
  refine (HL2.out _ HX1.out).mono ?_
  rintro e w2 ⟨v2, rfl, hx2, hg2⟩
  obtain ⟨g2, cap2, rfl, hglo2, -, -, -⟩ := GrowOf.atI false hg2 (i := 0) (by rw [HL2n.out]; exact hmm1)
  have HX2 := Lib.hid (HX1.out.trans hx2)
  have HS0 : Hid (JoSt w w.heap.size g cap g2 cap2 n (mixT L1 R 0) L2 w2) := ⟨⟨HX2.out, HO1.out.ext hx2, by
      have h := HG1.out.ext hx2
      rw [HL1n.out, hsz0] at h
      unfold mixT
      simpa using h⟩, (by have h := hg2.raise (lo' := g + 1) (by omega); rw [HL2n.out] at h; exact h), by omega⟩
  have hgw : w.heap.size < g := by omega
  rw [HL1n.out, HL2n.out]
  clear hx2 hg2 HX1 HO1 HG1 HX2 HL1 HL2
  go_wp2
  go_loopw [9, 16] (fun _ i wr => ∃ k : Nat, k ≤ n ∧ i = .int .i64 k ∧ Hid (JoSt w w.heap.size g cap g2 cap2 n (mixT L1 R k) L2 wr)) (fun _ i _ => n - (intOf i).toNat)
  case atStart => exact ⟨0, Nat.zero_le _, rfl, HS0⟩
  case round =>
    obtain ⟨k, hk, rfl, HS⟩ := hrel
    clear HS0
    obtain ⟨w3, rfl⟩ : ∃ w3 : World, w3 = wr := ⟨_, rfl⟩
    by_cases hlt : k < n
    · have hlt' : (k : Int) < (n : Int) := by omega
      have hk0 : (0 : Int) ≤ (k : Int) := by omega
      obtain ⟨hc, hf, hc2, hset⟩ := HS.out.at rfl hgw (k := k) (by rw [mixT_len HRn.out, HL1n.out]; exact hlt) (by rw [HL2n.out]; exact hlt)
      rw [mixT_at HRn.out (by rw [HL1n.out]; exact hlt)] at hc
      have HN2 : Hid (JoSt w w.heap.size g cap g2 cap2 n (mixT L1 R (k + 1)) L2 (w3.setCell ⟨g, k, none⟩ (.bool (R.getD k false)))) := by
        rw [← mixT_set HRn.out (by rw [HL1n.out]; exact hlt)]
        exact hset _
      rw [HAT.out k hlt] at HN2
      clear hset HS
      generalize L1.getD k false = b1 at *
      generalize L2.getD k false = b2 at *
      cases b1 <;> cases b2
      all_goals
        go_wp2
        go_roundw
        case rel => exact ⟨k + 1, by omega, by go_num, HN2⟩
        case measure => simp [intOf]; omega
    · have : k = n := by omega
      subst this
      have HS1 := HS.out.inv
      rw [show mixT L1 R k = R by rw [← HL1n.out]; exact mixT_all HRn.out] at HS1
      have HR := Lib.hid (HS1.grow.own false).row
      have HX := Lib.hid HS1.x
      have HO2 := Lib.hid HS1.one
      have hl3 : w.heap.size < w3.heap.size := HO2.out.lt
      have hlr2 : R.length = k := by rw [HRn.out, HL1n.out]
      clear HS HS1
      go_wp2_with fail
      refine (HWS.out _ HX.out).mono ?_
      rintro e w4 ⟨rfl, hx4⟩
      have hmk := l01Make_any (some ⟨g, 0, none⟩) cap m m R w4 hm1 (by omega) (by omega) HLR.out (RowOf.ext HR.out hx4)
      rw [hlr2] at hmk
      have HMK := Lib.hid hmk
      have HX3 := Lib.hid (HX.out.trans hx4)
      have HO3 := Lib.hid (HO2.out.ext hx4)
      have hl4 : w.heap.size < w4.heap.size := HO3.out.lt
      have HRL := Lib.hid (picRows_len m m R)
      clear hmk hx4 HX HO2 HR hlr2
      go_wp2_with fail
      refine HMK.out.mono ?_
      rintro e w5 ⟨a5, c5, rfl, hx5, ho5⟩
      obtain ⟨r1, r2, r3, HRR⟩ := Res.store (.slice a5 m c5) (HX3.out.trans hx5) (Nat.le_refl _) (HO3.out.ext hx5) hl4 ho5
      clear hx5 ho5
      go_wp2
      exact bodyPost_ret (v := .agg #[.slice a5 m c5]) (by simp [results, Try.results174, go_sem, r3]) rfl ⟨a5, c5, by rw [HRL.out], HRR.out.1, HRR.out.2⟩
set_option maxRecDepth 5000 in
set_option maxHeartbeats 1600000 in
theorem l01Join1_any (p q : Nat) (a : Option Addr) (c : Nat) (ss : List ByteArray) (a' : Option Addr) (c' : Nat) (tt : List ByteArray) (m : Nat) (w : World) (he : Even ss) (he' : Even tt) (hm1 : 1 ≤ m) (hm16 : m ≤ 16) (hW : picW ss = m) (hH : ss.length = m) (hW' : picW tt = m) (hH' : tt.length = m)
    (hp : w.cell? ⟨p, 0, none⟩ = some (.slice a m c)) (hr : RowS w a ss) (hq : w.cell? ⟨q, 0, none⟩ = some (.slice a' m c')) (hr' : RowS w a' tt) :
    Calls Try.prog 174 #[.int .i64 1, .pointer (some ⟨p, 0, none⟩), .pointer (some ⟨q, 0, none⟩)] w (PicVal w (picRows m m (mkl m m fun i j => joinB 1 (fS ss i j) (fS tt i j)))) := by
  have HWS : Hid (∀ w', w.Ext w' → Calls Try.prog 82 #[.pointer (some ⟨p, 0, none⟩)] w' fun e w'' => e = .returned (.int .i64 m) ∧ w'.Ext w'') := fun w' hx => by
    have h := l01Width_any p a c ss w' he.1 (by omega) (by omega) (by rw [hH]; exact hx.cell hp) (RowOf.ext hr hx)
    rw [hW] at h
    exact h
  have HL1 : Hid (∀ w', w.Ext w' → Calls Try.prog 137 #[.pointer (some ⟨p, 0, none⟩)] w' fun e w'' => ∃ v, e = .returned v ∧ BlSt w' v (picL ss) w'') := fun w' hx => l01List_any p a c ss w' he (by omega) (by omega) (by rw [hH]; exact hx.cell hp) (RowOf.ext hr hx)
  have HL2 : Hid (∀ w', w.Ext w' → Calls Try.prog 137 #[.pointer (some ⟨q, 0, none⟩)] w' fun e w'' => ∃ v, e = .returned v ∧ BlSt w' v (picL tt) w'') := fun w' hx => l01List_any q a' c' tt w' he' (by omega) (by omega) (by rw [hH']; exact hx.cell hq) (RowOf.ext hr' hx)
  have hl1 : (picL ss).length = m * m := by rw [picL_len he, hW, hH]
  have hl2 : (picL tt).length = m * m := by rw [picL_len he', hW', hH']
  have hlr : (mkl m m fun i j => joinB 1 (fS ss i j) (fS tt i j)).length = m * m := mkl_len _ _ _
  have HAT : Hid (∀ k, k < m * m → (mkl m m fun i j => joinB 1 (fS ss i j) (fS tt i j)).getD k false = joinB 1 ((picL ss).getD k false) ((picL tt).getD k false)) := fun k hk => by
    have hx : k % m < m := Nat.mod_lt _ hm1
    have hy : k / m < m := (Nat.div_lt_iff_lt_mul hm1).2 hk
    have e : k / m * m + k % m = k := by rw [Nat.mul_comm]; exact Nat.div_add_mod k m
    have h1 := mkl_at m m (fun i j => joinB 1 (fS ss i j) (fS tt i j)) (k % m) (k / m) hx hy
    have h2 : fS ss (k % m) (k / m) = (picL ss).getD k false := by unfold fS; rw [hW, hH, pxl_at _ _ _ _ _ hx hy, e]
    have h3 : fS tt (k % m) (k / m) = (picL tt).getD k false := by unfold fS; rw [hW', hH', pxl_at _ _ _ _ _ hx hy, e]
    rw [e, h2, h3] at h1
    exact h1
  have hmm : m * m ≤ 256 := Nat.mul_le_mul hm16 hm16
  have hmm1 : 1 ≤ m * m := Nat.mul_le_mul hm1 hm1
  obtain ⟨W0, hW0⟩ : ∃ W0, W0 = w.alloc (.cells #[.slice none 0 0] 26) := ⟨_, rfl⟩
  have hx0 : w.Ext W0 := by rw [hW0]; repeat (first | exact World.Ext.refl _ | exact ⟨_, rfl⟩ | assumption | refine World.Ext.over ?_ _ | refine World.Ext.drewN ?_ _ | refine World.Ext.drew ?_ | refine World.Ext.alloc ?_ _ | refine World.Ext.setCell ?_ (by simp) _)
  have hone : One W0 w.heap.size 26 (.slice none 0 0) := by rw [hW0]; exact One.new _ _ _ _ rfl
  have hsz0 : W0.heap.size = w.heap.size + 1 := by rw [hW0]; simp
  have HX0 := Lib.hid hx0
  have HO := Lib.hid hone
  have HLR := Lib.hid hlr
  clear hr he hp hr' he' hq hx0 hone hW hH hW' hH' hlr
  generalize (mkl m m fun i j => joinB 1 (fS ss i j) (fS tt i j)) = R at *
  generalize picL ss = L1 at *
  generalize picL tt = L2 at *
  obtain ⟨n, hn⟩ : ∃ n, n = m * m := ⟨_, rfl⟩
  rw [← hn] at hl1 hl2 hmm hmm1 HAT
  have HRn : Hid (R.length = L1.length) := by show _ = _; rw [HLR.out, hl1, hn]
  have HN := Lib.hid hn
  have HL1n := Lib.hid hl1
  have HL2n := Lib.hid hl2
  clear hn hl1 hl2
  go_enter Try.func174, Try.ntmps174
  go_wp2_with fail
  rw [← hW0]
  refine (HL1.out _ HX0.out).mono ?_
  rintro e w1 ⟨v1, rfl, hx1, hg1⟩
  obtain ⟨g, cap, rfl, hglo, -, -, -⟩ := GrowOf.atI false hg1 (i := 0) (by rw [HL1n.out]; exact hmm1)
  have hgl := (hg1.block (k := g) rfl).2
  have HX1 := Lib.hid (HX0.out.trans hx1)
  have HO1 := Lib.hid (HO.out.ext hx1)
  have HG1 := Lib.hid hg1
  clear hx1 hg1 hW0 HX0 HO
  go_wp2_with fail
  refine (HL2.out _ HX1.out).mono ?_
  rintro e w2 ⟨v2, rfl, hx2, hg2⟩
  obtain ⟨g2, cap2, rfl, hglo2, -, -, -⟩ := GrowOf.atI false hg2 (i := 0) (by rw [HL2n.out]; exact hmm1)
  have HX2 := Lib.hid (HX1.out.trans hx2)
  have HS0 : Hid (JoSt w w.heap.size g cap g2 cap2 n (mixT L1 R 0) L2 w2) := ⟨⟨HX2.out, HO1.out.ext hx2, by
      have h := HG1.out.ext hx2
      rw [HL1n.out, hsz0] at h
      unfold mixT
      simpa using h⟩, (by have h := hg2.raise (lo' := g + 1) (by omega); rw [HL2n.out] at h; exact h), by omega⟩
  have hgw : w.heap.size < g := by omega
  rw [HL1n.out, HL2n.out]
  clear hx2 hg2 HX1 HO1 HG1 HX2 HL1 HL2
  go_wp2
  go_loopw [9, 16] (fun _ i wr => ∃ k : Nat, k ≤ n ∧ i = .int .i64 k ∧ Hid (JoSt w w.heap.size g cap g2 cap2 n (mixT L1 R k) L2 wr)) (fun _ i _ => n - (intOf i).toNat)
  case atStart => exact ⟨0, Nat.zero_le _, rfl, HS0⟩
  case round =>
    obtain ⟨k, hk, rfl, HS⟩ := hrel
    clear HS0
    obtain ⟨w3, rfl⟩ : ∃ w3 : World, w3 = wr := ⟨_, rfl⟩
    by_cases hlt : k < n
    · have hlt' : (k : Int) < (n : Int) := by omega
      have hk0 : (0 : Int) ≤ (k : Int) := by omega
      obtain ⟨hc, hf, hc2, hset⟩ := HS.out.at rfl hgw (k := k) (by rw [mixT_len HRn.out, HL1n.out]; exact hlt) (by rw [HL2n.out]; exact hlt)
      rw [mixT_at HRn.out (by rw [HL1n.out]; exact hlt)] at hc
      have HN2 : Hid (JoSt w w.heap.size g cap g2 cap2 n (mixT L1 R (k + 1)) L2 (w3.setCell ⟨g, k, none⟩ (.bool (R.getD k false)))) := by
        rw [← mixT_set HRn.out (by rw [HL1n.out]; exact hlt)]
        exact hset _
      rw [HAT.out k hlt] at HN2
      clear hset HS
      generalize L1.getD k false = b1 at *
      generalize L2.getD k false = b2 at *
      cases b1 <;> cases b2
      all_goals
        go_wp2
        go_roundw
        case rel => exact ⟨k + 1, by omega, by go_num, HN2⟩
        case measure => simp [intOf]; omega
    · have : k = n := by omega
      subst this
      have HS1 := HS.out.inv
      rw [show mixT L1 R k = R by rw [← HL1n.out]; exact mixT_all HRn.out] at HS1
      have HR := Lib.hid (HS1.grow.own false).row
      have HX := Lib.hid HS1.x
      have HO2 := Lib.hid HS1.one
      have hl3 : w.heap.size < w3.heap.size := HO2.out.lt
      have hlr2 : R.length = k := by rw [HRn.out, HL1n.out]
      clear HS HS1
      go_wp2_with fail
      refine (HWS.out _ HX.out).mono ?_
      rintro e w4 ⟨rfl, hx4⟩
      have hmk := l01Make_any (some ⟨g, 0, none⟩) cap m m R w4 hm1 (by omega) (by omega) HLR.out (RowOf.ext HR.out hx4)
      rw [hlr2] at hmk
      have HMK := Lib.hid hmk
      have HX3 := Lib.hid (HX.out.trans hx4)
      have HO3 := Lib.hid (HO2.out.ext hx4)
      have hl4 : w.heap.size < w4.heap.size := HO3.out.lt
      have HRL := Lib.hid (picRows_len m m R)
      clear hmk hx4 HX HO2 HR hlr2
      go_wp2_with fail
      refine HMK.out.mono ?_
      rintro e w5 ⟨a5, c5, rfl, hx5, ho5⟩
      obtain ⟨r1, r2, r3, HRR⟩ := Res.store (.slice a5 m c5) (HX3.out.trans hx5) (Nat.le_refl _) (HO3.out.ext hx5) hl4 ho5
      clear hx5 ho5
      go_wp2
      exact bodyPost_ret (v := .agg #[.slice a5 m c5]) (by simp [results, Try.results174, go_sem, r3]) rfl ⟨a5, c5, by rw [HRL.out], HRR.out.1, HRR.out.2⟩
set_option maxRecDepth 5000 in
set_option maxHeartbeats 1600000 in
theorem l01Join2_any (p q : Nat) (a : Option Addr) (c : Nat) (ss : List ByteArray) (a' : Option Addr) (c' : Nat) (tt : List ByteArray) (m : Nat) (w : World) (he : Even ss) (he' : Even tt) (hm1 : 1 ≤ m) (hm16 : m ≤ 16) (hW : picW ss = m) (hH : ss.length = m) (hW' : picW tt = m) (hH' : tt.length = m)
    (hp : w.cell? ⟨p, 0, none⟩ = some (.slice a m c)) (hr : RowS w a ss) (hq : w.cell? ⟨q, 0, none⟩ = some (.slice a' m c')) (hr' : RowS w a' tt) :
    Calls Try.prog 174 #[.int .i64 2, .pointer (some ⟨p, 0, none⟩), .pointer (some ⟨q, 0, none⟩)] w (PicVal w (picRows m m (mkl m m fun i j => joinB 2 (fS ss i j) (fS tt i j)))) := by
  have HWS : Hid (∀ w', w.Ext w' → Calls Try.prog 82 #[.pointer (some ⟨p, 0, none⟩)] w' fun e w'' => e = .returned (.int .i64 m) ∧ w'.Ext w'') := fun w' hx => by
    have h := l01Width_any p a c ss w' he.1 (by omega) (by omega) (by rw [hH]; exact hx.cell hp) (RowOf.ext hr hx)
    rw [hW] at h
    exact h
  have HL1 : Hid (∀ w', w.Ext w' → Calls Try.prog 137 #[.pointer (some ⟨p, 0, none⟩)] w' fun e w'' => ∃ v, e = .returned v ∧ BlSt w' v (picL ss) w'') := fun w' hx => l01List_any p a c ss w' he (by omega) (by omega) (by rw [hH]; exact hx.cell hp) (RowOf.ext hr hx)
  have HL2 : Hid (∀ w', w.Ext w' → Calls Try.prog 137 #[.pointer (some ⟨q, 0, none⟩)] w' fun e w'' => ∃ v, e = .returned v ∧ BlSt w' v (picL tt) w'') := fun w' hx => l01List_any q a' c' tt w' he' (by omega) (by omega) (by rw [hH']; exact hx.cell hq) (RowOf.ext hr' hx)
  have hl1 : (picL ss).length = m * m := by rw [picL_len he, hW, hH]
  have hl2 : (picL tt).length = m * m := by rw [picL_len he', hW', hH']
  have hlr : (mkl m m fun i j => joinB 2 (fS ss i j) (fS tt i j)).length = m * m := mkl_len _ _ _
  have HAT : Hid (∀ k, k < m * m → (mkl m m fun i j => joinB 2 (fS ss i j) (fS tt i j)).getD k false = joinB 2 ((picL ss).getD k false) ((picL tt).getD k false)) := fun k hk => by
    have hx : k % m < m := Nat.mod_lt _ hm1
    have hy : k / m < m := (Nat.div_lt_iff_lt_mul hm1).2 hk
    have e : k / m * m + k % m = k := by rw [Nat.mul_comm]; exact Nat.div_add_mod k m
    have h1 := mkl_at m m (fun i j => joinB 2 (fS ss i j) (fS tt i j)) (k % m) (k / m) hx hy
    have h2 : fS ss (k % m) (k / m) = (picL ss).getD k false := by unfold fS; rw [hW, hH, pxl_at _ _ _ _ _ hx hy, e]
    have h3 : fS tt (k % m) (k / m) = (picL tt).getD k false := by unfold fS; rw [hW', hH', pxl_at _ _ _ _ _ hx hy, e]
    rw [e, h2, h3] at h1
    exact h1
  have hmm : m * m ≤ 256 := Nat.mul_le_mul hm16 hm16
  have hmm1 : 1 ≤ m * m := Nat.mul_le_mul hm1 hm1
  obtain ⟨W0, hW0⟩ : ∃ W0, W0 = w.alloc (.cells #[.slice none 0 0] 26) := ⟨_, rfl⟩
  have hx0 : w.Ext W0 := by rw [hW0]; repeat (first | exact World.Ext.refl _ | exact ⟨_, rfl⟩ | assumption | refine World.Ext.over ?_ _ | refine World.Ext.drewN ?_ _ | refine World.Ext.drew ?_ | refine World.Ext.alloc ?_ _ | refine World.Ext.setCell ?_ (by simp) _)
  have hone : One W0 w.heap.size 26 (.slice none 0 0) := by rw [hW0]; exact One.new _ _ _ _ rfl
  have hsz0 : W0.heap.size = w.heap.size + 1 := by rw [hW0]; simp
  have HX0 := Lib.hid hx0
  have HO := Lib.hid hone
  have HLR := Lib.hid hlr
  clear hr he hp hr' he' hq hx0 hone hW hH hW' hH' hlr
  generalize (mkl m m fun i j => joinB 2 (fS ss i j) (fS tt i j)) = R at *
  generalize picL ss = L1 at *
  generalize picL tt = L2 at *
  obtain ⟨n, hn⟩ : ∃ n, n = m * m := ⟨_, rfl⟩
  rw [← hn] at hl1 hl2 hmm hmm1 HAT
  have HRn : Hid (R.length = L1.length) := by show _ = _; rw [HLR.out, hl1, hn]
  have HN := Lib.hid hn
  have HL1n := Lib.hid hl1
  have HL2n := Lib.hid hl2
  clear hn hl1 hl2
  go_enter Try.func174, Try.ntmps174
  go_wp2_with fail
  rw [← hW0]
  refine (HL1.out _ HX0.out).mono ?_
  rintro e w1 ⟨v1, rfl, hx1, hg1⟩
  obtain ⟨g, cap, rfl, hglo, -, -, -⟩ := GrowOf.atI false hg1 (i := 0) (by rw [HL1n.out]; exact hmm1)
  have hgl := (hg1.block (k := g) rfl).2
  have HX1 := Lib.hid (HX0.out.trans hx1)
  have HO1 := Lib.hid (HO.out.ext hx1)
  have HG1 := Lib.hid hg1
  clear hx1 hg1 hW0 HX0 HO
  go_wp2_with fail
  refine (HL2.out _ HX1.out).mono ?_
  rintro e w2 ⟨v2, rfl, hx2, hg2⟩
  obtain ⟨g2, cap2, rfl, hglo2, -, -, -⟩ := GrowOf.atI false hg2 (i := 0) (by rw [HL2n.out]; exact hmm1)
  have HX2 := Lib.hid (HX1.out.trans hx2)
  have HS0 : Hid (JoSt w w.heap.size g cap g2 cap2 n (mixT L1 R 0) L2 w2) := ⟨⟨HX2.out, HO1.out.ext hx2, by
      have h := HG1.out.ext hx2
      rw [HL1n.out, hsz0] at h
      unfold mixT
      simpa using h⟩, (by have h := hg2.raise (lo' := g + 1) (by omega); rw [HL2n.out] at h; exact h), by omega⟩
  have hgw : w.heap.size < g := by omega
  rw [HL1n.out, HL2n.out]
  clear hx2 hg2 HX1 HO1 HG1 HX2 HL1 HL2
  go_wp2
  go_loopw [9, 16] (fun _ i wr => ∃ k : Nat, k ≤ n ∧ i = .int .i64 k ∧ Hid (JoSt w w.heap.size g cap g2 cap2 n (mixT L1 R k) L2 wr)) (fun _ i _ => n - (intOf i).toNat)
  case atStart => exact ⟨0, Nat.zero_le _, rfl, HS0⟩
  case round =>
    obtain ⟨k, hk, rfl, HS⟩ := hrel
    clear HS0
    obtain ⟨w3, rfl⟩ : ∃ w3 : World, w3 = wr := ⟨_, rfl⟩
    by_cases hlt : k < n
    · have hlt' : (k : Int) < (n : Int) := by omega
      have hk0 : (0 : Int) ≤ (k : Int) := by omega
      obtain ⟨hc, hf, hc2, hset⟩ := HS.out.at rfl hgw (k := k) (by rw [mixT_len HRn.out, HL1n.out]; exact hlt) (by rw [HL2n.out]; exact hlt)
      rw [mixT_at HRn.out (by rw [HL1n.out]; exact hlt)] at hc
      have HN2 : Hid (∀ x1 : World, JoSt w w.heap.size g cap g2 cap2 n (mixT L1 R (k + 1)) L2 ((w3.over x1).setCell ⟨g, k, none⟩ (.bool (R.getD k false)))) := fun x1 => by
        obtain ⟨-, -, -, hset⟩ := (HS.out.ext ⟨x1, rfl⟩ : JoSt w w.heap.size g cap g2 cap2 n (mixT L1 R k) L2 (w3.over x1)).at rfl hgw (k := k) (by rw [mixT_len HRn.out, HL1n.out]; exact hlt) (by rw [HL2n.out]; exact hlt)
        rw [← mixT_set HRn.out (by rw [HL1n.out]; exact hlt)]
        exact hset _
      rw [HAT.out k hlt] at HN2
      clear hset HS
      generalize L1.getD k false = b1 at *
      generalize L2.getD k false = b2 at *
      cases b1 <;> cases b2
      all_goals
        go_wp2_with fail
        refine wp_region_over_tail 12 (by kernel_rfl) (by kernel_rfl) ?_; simp only [List.take_succ_cons, List.take_zero, List.drop_succ_cons, List.drop_zero]; (repeat (go_big_quiet_step (fail))); refine wpQuiet_nil ?_; rintro _ ⟨x1, rfl⟩
        have hEx : w3.Ext (w3.over x1) := ⟨x1, rfl⟩
        have cx := hEx.cell hc
        have fx := hEx.free hc hf
        have HN5 := Lib.hid (HN2.out x1)
        clear hEx hc hf hc2 HN2
        generalize w3.over x1 = w5 at *
        go_wp2
        go_roundw
        case rel => exact ⟨k + 1, by omega, by go_num, HN5⟩
        case measure => simp [intOf]; omega
    · have : k = n := by omega
      subst this
      have HS1 := HS.out.inv
      rw [show mixT L1 R k = R by rw [← HL1n.out]; exact mixT_all HRn.out] at HS1
      have HR := Lib.hid (HS1.grow.own false).row
      have HX := Lib.hid HS1.x
      have HO2 := Lib.hid HS1.one
      have hl3 : w.heap.size < w3.heap.size := HO2.out.lt
      have hlr2 : R.length = k := by rw [HRn.out, HL1n.out]
      clear HS HS1
      go_wp2_with fail
      refine (HWS.out _ HX.out).mono ?_
      rintro e w4 ⟨rfl, hx4⟩
      have hmk := l01Make_any (some ⟨g, 0, none⟩) cap m m R w4 hm1 (by omega) (by omega) HLR.out (RowOf.ext HR.out hx4)
      rw [hlr2] at hmk
      have HMK := Lib.hid hmk
      have HX3 := Lib.hid (HX.out.trans hx4)
      have HO3 := Lib.hid (HO2.out.ext hx4)
      have hl4 : w.heap.size < w4.heap.size := HO3.out.lt
      have HRL := Lib.hid (picRows_len m m R)
      clear hmk hx4 HX HO2 HR hlr2
      go_wp2_with fail
      refine HMK.out.mono ?_
      rintro e w5 ⟨a5, c5, rfl, hx5, ho5⟩
      obtain ⟨r1, r2, r3, HRR⟩ := Res.store (.slice a5 m c5) (HX3.out.trans hx5) (Nat.le_refl _) (HO3.out.ext hx5) hl4 ho5
      clear hx5 ho5
      go_wp2
      exact bodyPost_ret (v := .agg #[.slice a5 m c5]) (by simp [results, Try.results174, go_sem, r3]) rfl ⟨a5, c5, by rw [HRL.out], HRR.out.1, HRR.out.2⟩
set_option maxRecDepth 5000 in
set_option maxHeartbeats 1600000 in
theorem l01Join3_any (p q : Nat) (a : Option Addr) (c : Nat) (ss : List ByteArray) (a' : Option Addr) (c' : Nat) (tt : List ByteArray) (m : Nat) (w : World) (he : Even ss) (he' : Even tt) (hm1 : 1 ≤ m) (hm16 : m ≤ 16) (hW : picW ss = m) (hH : ss.length = m) (hW' : picW tt = m) (hH' : tt.length = m)
    (hp : w.cell? ⟨p, 0, none⟩ = some (.slice a m c)) (hr : RowS w a ss) (hq : w.cell? ⟨q, 0, none⟩ = some (.slice a' m c')) (hr' : RowS w a' tt) :
    Calls Try.prog 174 #[.int .i64 3, .pointer (some ⟨p, 0, none⟩), .pointer (some ⟨q, 0, none⟩)] w (PicVal w (picRows m m (mkl m m fun i j => joinB 3 (fS ss i j) (fS tt i j)))) := by
  have HWS : Hid (∀ w', w.Ext w' → Calls Try.prog 82 #[.pointer (some ⟨p, 0, none⟩)] w' fun e w'' => e = .returned (.int .i64 m) ∧ w'.Ext w'') := fun w' hx => by
    have h := l01Width_any p a c ss w' he.1 (by omega) (by omega) (by rw [hH]; exact hx.cell hp) (RowOf.ext hr hx)
    rw [hW] at h
    exact h
  have HL1 : Hid (∀ w', w.Ext w' → Calls Try.prog 137 #[.pointer (some ⟨p, 0, none⟩)] w' fun e w'' => ∃ v, e = .returned v ∧ BlSt w' v (picL ss) w'') := fun w' hx => l01List_any p a c ss w' he (by omega) (by omega) (by rw [hH]; exact hx.cell hp) (RowOf.ext hr hx)
  have HL2 : Hid (∀ w', w.Ext w' → Calls Try.prog 137 #[.pointer (some ⟨q, 0, none⟩)] w' fun e w'' => ∃ v, e = .returned v ∧ BlSt w' v (picL tt) w'') := fun w' hx => l01List_any q a' c' tt w' he' (by omega) (by omega) (by rw [hH']; exact hx.cell hq) (RowOf.ext hr' hx)
  have hl1 : (picL ss).length = m * m := by rw [picL_len he, hW, hH]
  have hl2 : (picL tt).length = m * m := by rw [picL_len he', hW', hH']
  have hlr : (mkl m m fun i j => joinB 3 (fS ss i j) (fS tt i j)).length = m * m := mkl_len _ _ _
  have HAT : Hid (∀ k, k < m * m → (mkl m m fun i j => joinB 3 (fS ss i j) (fS tt i j)).getD k false = joinB 3 ((picL ss).getD k false) ((picL tt).getD k false)) := fun k hk => by
    have hx : k % m < m := Nat.mod_lt _ hm1
    have hy : k / m < m := (Nat.div_lt_iff_lt_mul hm1).2 hk
    have e : k / m * m + k % m = k := by rw [Nat.mul_comm]; exact Nat.div_add_mod k m
    have h1 := mkl_at m m (fun i j => joinB 3 (fS ss i j) (fS tt i j)) (k % m) (k / m) hx hy
    have h2 : fS ss (k % m) (k / m) = (picL ss).getD k false := by unfold fS; rw [hW, hH, pxl_at _ _ _ _ _ hx hy, e]
    have h3 : fS tt (k % m) (k / m) = (picL tt).getD k false := by unfold fS; rw [hW', hH', pxl_at _ _ _ _ _ hx hy, e]
    rw [e, h2, h3] at h1
    exact h1
  have hmm : m * m ≤ 256 := Nat.mul_le_mul hm16 hm16
  have hmm1 : 1 ≤ m * m := Nat.mul_le_mul hm1 hm1
  obtain ⟨W0, hW0⟩ : ∃ W0, W0 = w.alloc (.cells #[.slice none 0 0] 26) := ⟨_, rfl⟩
  have hx0 : w.Ext W0 := by rw [hW0]; repeat (first | exact World.Ext.refl _ | exact ⟨_, rfl⟩ | assumption | refine World.Ext.over ?_ _ | refine World.Ext.drewN ?_ _ | refine World.Ext.drew ?_ | refine World.Ext.alloc ?_ _ | refine World.Ext.setCell ?_ (by simp) _)
  have hone : One W0 w.heap.size 26 (.slice none 0 0) := by rw [hW0]; exact One.new _ _ _ _ rfl
  have hsz0 : W0.heap.size = w.heap.size + 1 := by rw [hW0]; simp
  have HX0 := Lib.hid hx0
  have HO := Lib.hid hone
  have HLR := Lib.hid hlr
  clear hr he hp hr' he' hq hx0 hone hW hH hW' hH' hlr
  generalize (mkl m m fun i j => joinB 3 (fS ss i j) (fS tt i j)) = R at *
  generalize picL ss = L1 at *
  generalize picL tt = L2 at *
  obtain ⟨n, hn⟩ : ∃ n, n = m * m := ⟨_, rfl⟩
  rw [← hn] at hl1 hl2 hmm hmm1 HAT
  have HRn : Hid (R.length = L1.length) := by show _ = _; rw [HLR.out, hl1, hn]
  have HN := Lib.hid hn
  have HL1n := Lib.hid hl1
  have HL2n := Lib.hid hl2
  clear hn hl1 hl2
  go_enter Try.func174, Try.ntmps174
  go_wp2_with fail
  rw [← hW0]
  refine (HL1.out _ HX0.out).mono ?_
  rintro e w1 ⟨v1, rfl, hx1, hg1⟩
  obtain ⟨g, cap, rfl, hglo, -, -, -⟩ := GrowOf.atI false hg1 (i := 0) (by rw [HL1n.out]; exact hmm1)
  have hgl := (hg1.block (k := g) rfl).2
  have HX1 := Lib.hid (HX0.out.trans hx1)
  have HO1 := Lib.hid (HO.out.ext hx1)
  have HG1 := Lib.hid hg1
  clear hx1 hg1 hW0 HX0 HO
  go_wp2_with fail
  refine (HL2.out _ HX1.out).mono ?_
  rintro e w2 ⟨v2, rfl, hx2, hg2⟩
  obtain ⟨g2, cap2, rfl, hglo2, -, -, -⟩ := GrowOf.atI false hg2 (i := 0) (by rw [HL2n.out]; exact hmm1)
  have HX2 := Lib.hid (HX1.out.trans hx2)
  have HS0 : Hid (JoSt w w.heap.size g cap g2 cap2 n (mixT L1 R 0) L2 w2) := ⟨⟨HX2.out, HO1.out.ext hx2, by
      have h := HG1.out.ext hx2
      rw [HL1n.out, hsz0] at h
      unfold mixT
      simpa using h⟩, (by have h := hg2.raise (lo' := g + 1) (by omega); rw [HL2n.out] at h; exact h), by omega⟩
  have hgw : w.heap.size < g := by omega
  rw [HL1n.out, HL2n.out]
  clear hx2 hg2 HX1 HO1 HG1 HX2 HL1 HL2
  go_wp2
  go_loopw [9, 16] (fun _ i wr => ∃ k : Nat, k ≤ n ∧ i = .int .i64 k ∧ Hid (JoSt w w.heap.size g cap g2 cap2 n (mixT L1 R k) L2 wr)) (fun _ i _ => n - (intOf i).toNat)
  case atStart => exact ⟨0, Nat.zero_le _, rfl, HS0⟩
  case round =>
    obtain ⟨k, hk, rfl, HS⟩ := hrel
    clear HS0
    obtain ⟨w3, rfl⟩ : ∃ w3 : World, w3 = wr := ⟨_, rfl⟩
    by_cases hlt : k < n
    · have hlt' : (k : Int) < (n : Int) := by omega
      have hk0 : (0 : Int) ≤ (k : Int) := by omega
      obtain ⟨hc, hf, hc2, hset⟩ := HS.out.at rfl hgw (k := k) (by rw [mixT_len HRn.out, HL1n.out]; exact hlt) (by rw [HL2n.out]; exact hlt)
      rw [mixT_at HRn.out (by rw [HL1n.out]; exact hlt)] at hc
      have HN2 : Hid (JoSt w w.heap.size g cap g2 cap2 n (mixT L1 R (k + 1)) L2 (w3.setCell ⟨g, k, none⟩ (.bool (R.getD k false)))) := by
        rw [← mixT_set HRn.out (by rw [HL1n.out]; exact hlt)]
        exact hset _
      rw [HAT.out k hlt] at HN2
      clear hset HS
      generalize L1.getD k false = b1 at *
      generalize L2.getD k false = b2 at *
      cases b1 <;> cases b2
      all_goals
        go_wp2
        go_roundw
        case rel => exact ⟨k + 1, by omega, by go_num, HN2⟩
        case measure => simp [intOf]; omega
    · have : k = n := by omega
      subst this
      have HS1 := HS.out.inv
      rw [show mixT L1 R k = R by rw [← HL1n.out]; exact mixT_all HRn.out] at HS1
      have HR := Lib.hid (HS1.grow.own false).row
      have HX := Lib.hid HS1.x
      have HO2 := Lib.hid HS1.one
      have hl3 : w.heap.size < w3.heap.size := HO2.out.lt
      have hlr2 : R.length = k := by rw [HRn.out, HL1n.out]
      clear HS HS1
      go_wp2_with fail
      refine (HWS.out _ HX.out).mono ?_
      rintro e w4 ⟨rfl, hx4⟩
      have hmk := l01Make_any (some ⟨g, 0, none⟩) cap m m R w4 hm1 (by omega) (by omega) HLR.out (RowOf.ext HR.out hx4)
      rw [hlr2] at hmk
      have HMK := Lib.hid hmk
      have HX3 := Lib.hid (HX.out.trans hx4)
      have HO3 := Lib.hid (HO2.out.ext hx4)
      have hl4 : w.heap.size < w4.heap.size := HO3.out.lt
      have HRL := Lib.hid (picRows_len m m R)
      clear hmk hx4 HX HO2 HR hlr2
      go_wp2_with fail
      refine HMK.out.mono ?_
      rintro e w5 ⟨a5, c5, rfl, hx5, ho5⟩
      obtain ⟨r1, r2, r3, HRR⟩ := Res.store (.slice a5 m c5) (HX3.out.trans hx5) (Nat.le_refl _) (HO3.out.ext hx5) hl4 ho5
      clear hx5 ho5
      go_wp2
      exact bodyPost_ret (v := .agg #[.slice a5 m c5]) (by simp [results, Try.results174, go_sem, r3]) rfl ⟨a5, c5, by rw [HRL.out], HRR.out.1, HRR.out.2⟩
end Go.Proofs.Ytlcofjicpbbdhaa
