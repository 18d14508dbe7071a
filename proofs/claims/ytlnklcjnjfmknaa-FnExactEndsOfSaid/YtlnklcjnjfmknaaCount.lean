/- Numbers of black pixels; DistancesOf. -/
import Derived.Test.YtlnklcjnjfmknaaDepF
namespace Go.Proofs.Ytlnklcjnjfmknaa
open Go.RowKit
theorem spotsTo_count {W : Nat} {l : List Bool} {k : Nat} : (spotsTo W l (k + 1)).length = (spotsTo W l k).length + (if l.getD k false then 1 else 0) := by
  unfold spotsTo
  rw [List.range_succ, List.filter_append, List.map_append, List.length_append]
  cases h : l.getD k false
  · rw [List.filter_cons_of_neg (by rw [h]; decide)]; simp
  · rw [List.filter_cons_of_pos (by rw [h])]; simp
set_option maxRecDepth 5000 in
set_option maxHeartbeats 800000 in
theorem l01Count_any (p : Nat) (a : Option Addr) (c : Nat) (ss : List ByteArray) (w : World) (he : Even ss) (hH : ss.length ≤ 64) (hW : picW ss ≤ 64) (hp : w.cell? ⟨p, 0, none⟩ = some (.slice a ss.length c)) (hm : RowS w a ss) :
    Calls Try.prog 123 #[.pointer (some ⟨p, 0, none⟩)] w fun e w' => e = .returned (.int .i64 (spotsTo (picW ss) (picL ss) (ss.length * picW ss)).length) ∧ w.Ext w' := by
  have HM := Lib.hid hm
  have HE := Lib.hid he
  have HB : Hid (∀ k, k ≤ 4096 → (spotsTo (picW ss) (picL ss) k).length ≤ 4096) := fun k hk => Nat.le_trans (spotsTo_len _ _ _) hk
  clear hm he
  go_enter Try.func123, Try.ntmps123
  go_wp2
  go_loop [3, 4, 5] (fun n i _ => ∃ y : Nat, y ≤ ss.length ∧ i = .int .i64 y ∧ n = .int .i64 (spotsTo (picW ss) (picL ss) (y * picW ss)).length) (fun _ i _ => ss.length - (intOf i).toNat)
  case atStart => exact ⟨0, Nat.zero_le _, rfl, by rw [Nat.zero_mul]; rfl⟩
  case round =>
    obtain ⟨y, hy, rfl, rfl⟩ := hrel
    by_cases hlty : y < ss.length
    · have hlty' : (y : Int) < (ss.length : Int) := by omega
      have hy0 : (0 : Int) ≤ (y : Int) := by omega
      obtain ⟨b, o, rfl, hc⟩ := HM.out y hlty
      have hsz : (ss.getD y ByteArray.empty).size = picW ss := HE.out.2 y hlty
      have HAT := Lib.hid (fun x (hx : x < picW ss) => picL_at HE.out x y hx hlty)
      have HY : Hid (∀ x, x ≤ picW ss → y * picW ss + x ≤ 4096) := fun x hx => by
        have := Nat.mul_le_mul (show y ≤ 63 by omega) hW
        omega
      generalize ss.getD y ByteArray.empty = s at hc hsz HAT
      have HSZ := Lib.hid hsz
      go_wp2
      go_loop [3, 5] (fun n i => ∃ x : Nat, x ≤ picW ss ∧ i = .int .i64 x ∧ n = .int .i64 (spotsTo (picW ss) (picL ss) (y * picW ss + x)).length) (fun _ i => picW ss - (intOf i).toNat)
      case atStart => exact ⟨0, Nat.zero_le _, rfl, rfl⟩
      case round =>
        obtain ⟨x, hx, rfl, rfl⟩ := hrel
        by_cases hltx : x < picW ss
        · have hltx' : (x : Int) < (s.size : Int) := by omega
          have hlts : x < s.size := by omega
          have hx0 : (0 : Int) ≤ (x : Int) := by omega
          have hbe := byte_eq s x hlts 35
          have hcnt := HB.out (y * picW ss + x) (HY.out x hx)
          have HK := Lib.hid (spotsTo_count (W := picW ss) (l := picL ss) (k := y * picW ss + x))
          rw [HAT.out x hltx, ← hbe] at HK
          clear hbe
          generalize (spotsTo (picW ss) (picL ss) (y * picW ss + x)).length = n at HK hcnt ⊢
          cases hb : (((s[x]'hlts).toNat : Int) == ((35 : UInt8).toNat : Int))
          · have hb2 : (((s[x]'hlts).toNat : Int) == 35) = false := hb
            rw [hb] at HK
            have HK2 : Hid ((spotsTo (picW ss) (picL ss) (y * picW ss + (x + 1))).length = n) := by show _ = _; rw [← Nat.add_assoc, HK.out]; simp
            clear hb HK hsz
            go_wp2
            go_round
            case rel => exact ⟨x + 1, by omega, by go_num, by rw [HK2.out]⟩
            case measure => simp [intOf]; omega
          · have hb2 : (((s[x]'hlts).toNat : Int) == 35) = true := hb
            rw [hb] at HK
            have HK2 : Hid ((spotsTo (picW ss) (picL ss) (y * picW ss + (x + 1))).length = n + 1) := by show _ = _; rw [← Nat.add_assoc, HK.out]; simp
            clear hb HK hsz
            go_wp2
            go_round
            case rel => exact ⟨x + 1, by omega, by go_num, by rw [HK2.out]; go_num⟩
            case measure => simp [intOf]; omega
        · have : x = picW ss := by omega
          subst this
          have hge : ¬ (picW ss : Int) < (s.size : Int) := by omega
          clear hsz
          go_wp2
          go_round
          case rel => exact ⟨y + 1, by omega, by go_num, by rw [Nat.succ_mul]⟩
          case measure => simp [intOf]; omega
    · have : y = ss.length := by omega
      subst this
      go_wp2
      go_ret
      exact ⟨rfl, .refl _⟩
set_option maxHeartbeats 400000 in
theorem count_any (b ab W H : Nat) (l : List Bool) (w : World) (hW : W ≤ 64) (hH : H ≤ 64) (hI : Img w b ab W H l) :
    Calls Try.prog 125 #[.pointer (some ⟨b, 0, none⟩)] w fun e w' => e = .returned (.int .i64 (spotsTo W l (H * W)).length) ∧ w.Ext w' := by
  have HS := Lib.hid (spots_any b ab W H l w hW hH hI)
  have hn : (spotsTo W l (H * W)).length ≤ 4096 := Nat.le_trans (spotsTo_len _ _ _) (Nat.mul_le_mul hH hW)
  clear hI
  generalize spotsTo W l (H * W) = ps at *
  go_enter Try.func125, Try.ntmps125
  go_wp2_with fail
  refine HS.out.mono ?_
  rintro e w1 ⟨a, c, rfl, hx, ho⟩
  clear ho
  go_wp2
  go_ret
  exact ⟨rfl, hx⟩
def someOk (ss : List ByteArray) (kind : Int) : Bool := askOk ss kind && decide (0 < (spotsTo (picW ss) (picL ss) (ss.length * picW ss)).length)
set_option maxHeartbeats 400000 in
theorem l06Some_any (p : Nat) (a : Option Addr) (c : Nat) (ss : List ByteArray) (k : Int) (w : World) (hb : PicBnd ss) (hp : w.cell? ⟨p, 0, none⟩ = some (.slice a ss.length c)) (hm : RowS w a ss) :
    Calls Try.prog 65 #[.pointer (some ⟨p, 0, none⟩), .int .i64 k] w fun e w' => e = .returned (.bool (someOk ss k)) ∧ w.Ext w' := by
  have HA : Hid (Calls Try.prog 57 #[.pointer (some ⟨p, 0, none⟩), .int .i64 k] w fun e w' => e = .returned (.bool (askOk ss k)) ∧ w.Ext w') := l06Ask_any p a c ss k w hb hp hm
  unfold someOk
  cases h : askOk ss k
  · rw [h] at HA
    rw [Bool.false_and]
    clear h hb hp hm
    go_enter Try.func65, Try.ntmps65
    go_wp2_with fail
    refine HA.out.mono ?_
    rintro e w1 ⟨rfl, hx⟩
    go_wp2
    go_ret
    exact ⟨rfl, hx⟩
  · rw [h] at HA
    unfold askOk at h
    rw [Bool.and_eq_true] at h
    obtain ⟨q1, q2, q3, q4, he, _⟩ := picOk_spec h.1
    have HC := Lib.hid (fun w' (hx : w.Ext w') => l01Count_any p a c ss w' he (by omega) (by omega) (hx.cell hp) (hm.ext hx))
    rw [Bool.true_and]
    clear h hb hp hm q1 q2 q3 q4 he
    generalize (spotsTo (picW ss) (picL ss) (ss.length * picW ss)).length = n at *
    go_enter Try.func65, Try.ntmps65
    go_wp2_with fail
    refine HA.out.mono ?_
    rintro e w1 ⟨rfl, hx⟩
    go_wp2_with fail
    refine (HC.out _ hx).mono ?_
    rintro e w2 ⟨rfl, hx2⟩
    go_wp2
    go_ret
    exact ⟨rfl, hx.trans hx2⟩
def disI (kind : Int) (W H : Nat) (l : List Bool) (x y : Nat) : Int := nearTo kind W l (x, y) (H * W)
set_option maxRecDepth 5000 in
set_option maxHeartbeats 1600000 in
theorem l06Distances_any (p : Nat) (kind : Int) (a : Option Addr) (c : Nat) (ss : List ByteArray) (w : World) (he : Even ss) (hW : picW ss ≤ 38) (hH : ss.length ≤ 38)
    (hp : w.cell? ⟨p, 0, none⟩ = some (.slice a ss.length c)) (hm : RowS w a ss) :
    Calls Try.prog 66 #[.pointer (some ⟨p, 0, none⟩), .int .i64 kind] w (MatRet w (grd (picW ss) ss.length (disI kind (picW ss) ss.length (picL ss)))) := by
  obtain ⟨i0, hi, hz0, hz1, hz2⟩ := info_parts Try.infoI64G
  obtain ⟨j0, hj, hy0, hy1, hy2⟩ := info_parts Try.infoRowG
  have HWS : Hid (∀ w', w.Ext w' → Calls Try.prog 74 #[.pointer (some ⟨p, 0, none⟩)] w' fun e w'' => e = .returned (.int .i64 (picW ss)) ∧ w'.Ext w'') := fun w' hx => l01Width_any p a c ss w' he.1 (by omega) (by omega) (hx.cell hp) (RowOf.ext hm hx)
  have HHS : Hid (∀ w', w.Ext w' → Calls Try.prog 75 #[.pointer (some ⟨p, 0, none⟩)] w' fun e w'' => e = .returned (.int .i64 ss.length) ∧ w'.Ext w'') := fun w' hx => l01Height_any p a c ss.length w' (by omega) (hx.cell hp)
  have HNE : Hid (∀ w', w.Ext w' → ∀ x y : Nat, x < picW ss → y < ss.length → Calls Try.prog 124 #[.pointer (some ⟨p, 0, none⟩), .int .i64 kind, .int .i64 x, .int .i64 y] w' (NearRet w' (disI kind (picW ss) ss.length (picL ss) x y))) := fun w' hx x y h1 h2 => l06Nearest_any p kind x y a c ss w' he (by omega) (by omega) (hx.cell hp) (RowOf.ext hm hx) (by omega) (by omega)
  clear hm he hp
  generalize disI kind (picW ss) ss.length (picL ss) = g at *
  generalize picW ss = W at *
  generalize ss.length = H at *
  have HST := Lib.hid (GrdSt.start (.refl w) W g)
  go_enter Try.func66, Try.ntmps66
  go_wp2
  go_loopw [5, 6, 7, 8, 9, 10] (fun v i _ _ _ _ wr => ∃ y : Nat, y ≤ H ∧ i = .int .i64 y ∧ Hid (GrdSt w W g v y wr)) (fun _ i _ _ _ _ _ => H - (intOf i).toNat)
  case atStart => exact ⟨0, Nat.zero_le _, rfl, HST⟩
  case round =>
    obtain ⟨y, hy, rfl, HS0⟩ := hrel
    clear HST
    obtain ⟨wq, rfl⟩ : ∃ wq : World, wq = wr := ⟨_, rfl⟩
    go_wp2_with fail
    refine (HHS.out _ HS0.out.x).mono ?_
    rintro e wo ⟨rfl, hxo⟩
    have HS := Lib.hid (HS0.out.ext hxo)
    clear hxo HS0
    by_cases hlty : y < H
    · have hlty' : (y : Int) < (H : Int) := by omega
      have HR0 := Lib.hid (RowSt.start wo g y)
      go_wp2
      go_loopw [7, 8, 9, 10] (fun u i _ _ wr => ∃ x : Nat, x ≤ W ∧ i = .int .i64 x ∧ Hid (RowSt wo g u y x wr)) (fun _ i _ _ _ => W - (intOf i).toNat)
      case atStart => exact ⟨0, Nat.zero_le _, rfl, HR0⟩
      case round =>
        obtain ⟨x, hx, rfl, HRa⟩ := hrel
        clear HR0
        go_wp2_with fail
        refine (HWS.out _ (HS.out.x.trans HRa.out.1)).mono ?_
        rintro e wp ⟨rfl, hxp⟩
        have HR := Lib.hid (HRa.out.ext hxp)
        clear hxp HRa
        by_cases hltx : x < W
        · have hltx' : (x : Int) < (W : Int) := by omega
          have HC := Lib.hid (HNE.out _ (HS.out.x.trans HR.out.1) x y hltx hlty)
          go_wp2_with fail
          refine HC.out.mono ?_
          rintro e w3 ⟨bx, by', rfl, hx3⟩
          have HR3 := Lib.hid ((HR.out.ext hx3).ext ((World.Ext.refl _).alloc (.cells #[.int .i64 bx, .int .i64 by'] 80)))
          have hown := HR3.out.2
          unfold GrowOf at hown
          have HNEXT : Hid (∀ (o : Obj) (v' : Value) (w4 : World), ((w3.alloc (.cells #[.int .i64 bx, .int .i64 by'] 80)).alloc o).grownBy w4 u7.ownBlock → w4.ownsRow wo.heap.size 2 1 v' ((grdRow g y x).length + 1) ((grdRow g y x).map (Value.int .i64) ++ [.int .i64 (g x y)]) → Hid (RowSt wo g v' y (x + 1) w4)) := fun o v' w4 hgrow hown' => RowSt.next HR3.out hgrow hown'
          have HB1 : Hid ((grdRow g y x).length + 1 ≤ maxLen) := by show _ ≤ _; rw [grdRow_len]; unfold maxLen; omega
          have HB2 : Hid (((grdRow g y x).length + 1) * 8 ≤ 140737488355328) := by show _ ≤ _; rw [grdRow_len]; omega
          have HLE : ∀ o' : Obj, wo.heap.size ≤ ((w3.alloc (.cells #[.int .i64 bx, .int .i64 by'] 80)).alloc o').heap.size := fun o' => (HR3.out.1.alloc o').size
          clear hx3 HR HC
          generalize grdRow g y x = row at *
          generalize g x y = z at *
          go_wp2_with ((at_builtin; refine wpList_append_own _ rfl _ _ 54 rfl wo.heap.size 2 i0 (.int .i64 0) 1 8 Try.underlying54 hi hz0 hz1 hz2 rfl (by decide) _ _ _ rfl (hown.alloc _) ⟨w3.heap.size + 1, 0, none⟩ 1 1 [.int .i64 z] rfl rfl (cell_one_at (by simp)) (by simp [Value.oneCell']) HB1.out HB2.out (HLE _) (fun v' w1 hown' hgrow _ => ?_)); have HR4 := HNEXT.out _ _ _ hgrow hown'; clear hgrow hown' hown)
          go_roundw
          case rel => exact ⟨x + 1, by omega, by go_num, HR4⟩
          case measure => simp [intOf]; omega
        · have : x = W := by omega
          subst this
          obtain ⟨A, C, hxo, hm⟩ := HS.out
          have hown := World.ownsRow.ext hm.outer HR.out.1
          obtain ⟨a, c, rfl⟩ := HR.out.form
          have HNEXT : Hid (∀ (o : Obj) (v' : Value) (w4 : World), (wp.alloc o).grownBy w4 u5.ownBlock → w4.ownsRow w.heap.size 54 1 v' ((grd x y g).length + 1) ((List.range (grd x y g).length).map (fun r => Value.slice (A r) ((grd x y g).getD r []).length (C r)) ++ [.slice a x c]) → Hid (GrdSt w x g v' (y + 1) w4)) := fun o v' w4 hgrow hown' => GrdSt.next hxo hm HR.out hgrow hown'
          have HB1 : Hid ((grd x y g).length + 1 ≤ maxLen) := by show _ ≤ _; rw [grd_len]; unfold maxLen; omega
          have HB2 : Hid (((grd x y g).length + 1) * 24 ≤ 140737488355328) := by show _ ≤ _; rw [grd_len]; omega
          have HLE : ∀ o' : Obj, w.heap.size ≤ (wp.alloc o').heap.size := fun o' => ((hxo.trans HR.out.1).alloc o').size
          clear HR hxo hm HS
          generalize (List.range (grd x y g).length).map (fun r => Value.slice (A r) ((grd x y g).getD r []).length (C r)) = pre at *
          generalize (grd x y g).length = n at *
          go_wp2_with ((at_builtin; refine wpList_append_own _ rfl _ _ 26 rfl w.heap.size 54 j0 (.slice none 0 0) 1 24 Try.underlying26 hj hy0 hy1 hy2 rfl (by decide) _ _ _ rfl (hown.alloc _) ⟨wp.heap.size, 0, none⟩ 1 1 [.slice a x c] rfl rfl (cell_one_new _ _ _) (by simp [Value.oneCell']) HB1.out HB2.out (HLE _) (fun v' w1 hown' hgrow _ => ?_)); have HS4 := HNEXT.out _ _ _ hgrow hown'; clear hgrow hown' hown)
          go_roundw
          case rel => exact ⟨y + 1, by omega, by go_num, HS4⟩
          case measure => simp [intOf]; omega
    · have : y = H := by omega
      subst this
      have HR := Lib.hid HS.out.ret
      obtain ⟨A, C, _, hm⟩ := HS.out
      obtain ⟨a, c, rfl, _⟩ := World.ownsRow.form hm.outer
      clear hm HS
      go_wp2
      go_ret
      exact HR.out
/-- An image and its black pixels are returned, if there are any. -/
def BlackRet (w : World) (ss : List ByteArray) (ps : List (Int × Int)) (ok : Bool) (e : Ending) (w' : World) : Prop :=
  if ok then ∃ b ab a c, e = .returned (.tuple #[.pointer (some ⟨b, 0, none⟩), .slice a ps.length c, .bool true]) ∧ w.Ext w' ∧ Img w' b ab (picW ss) ss.length (picL ss) ∧ RowP w' a ps
  else e = .returned (.tuple #[.pointer none, .slice none 0 0, .bool false]) ∧ w.Ext w'
theorem BlackRet.yes {w w' : World} {ss : List ByteArray} {ps : List (Int × Int)} {b ab : Nat} {a : Option Addr} {c : Nat} (hx : w.Ext w') (hi : Img w' b ab (picW ss) ss.length (picL ss)) (hr : RowP w' a ps) : BlackRet w ss ps true (.returned (.tuple #[.pointer (some ⟨b, 0, none⟩), .slice a ps.length c, .bool true])) w' := ⟨b, ab, a, c, rfl, hx, hi, hr⟩
theorem BlackRet.no {w w' : World} {ss : List ByteArray} {ps : List (Int × Int)} (hx : w.Ext w') : BlackRet w ss ps false (.returned (.tuple #[.pointer none, .slice none 0 0, .bool false])) w' := ⟨rfl, hx⟩
set_option maxRecDepth 5000 in
set_option maxHeartbeats 800000 in
theorem withBlack_any (a : Option Addr) (c : Nat) (ss : List ByteArray) (kind : Int) (w : World) (hb : PicBnd ss) (hm : RowS w a ss) :
    Calls Try.prog 67 #[.agg #[.slice a ss.length c], .int .i64 kind] w (BlackRet w ss (spotsTo (picW ss) (picL ss) (ss.length * picW ss)) (someOk ss kind)) := by
  obtain ⟨W0, hW0⟩ : ∃ W0, W0 = w.alloc (.cells #[.slice a ss.length c] 29) := ⟨_, rfl⟩
  have hx0 : w.Ext W0 := by rw [hW0]; repeat (first | exact World.Ext.refl _ | exact ⟨_, rfl⟩ | assumption | refine World.Ext.over ?_ _ | refine World.Ext.drewN ?_ _ | refine World.Ext.drew ?_ | refine World.Ext.alloc ?_ _ | refine World.Ext.setCell ?_ (by simp) _)
  have HIO : Hid (Calls Try.prog 60 #[.agg #[.slice a ss.length c]] W0 (ImgOf W0 ss (picOk ss))) := imageOf_any a c ss W0 hb.1 hb.2 (hm.ext hx0) _ rfl
  have HX0 := Lib.hid hx0
  have HK : Hid (∀ w, Calls Try.prog 61 #[.int .i64 kind] w fun e w' => e = .returned (.bool (inB kind 0 2)) ∧ w.Ext w') := fun w => kindOk_any kind w _ rfl
  clear hm hb hx0
  cases h : picOk ss
  · rw [h] at HIO
    have e : someOk ss kind = false := by unfold someOk askOk; rw [h]; rfl
    rw [e]
    clear h e
    go_enter Try.func67, Try.ntmps67
    go_wp2_with fail
    rw [← hW0]
    refine HIO.out.mono ?_
    rintro e w1 ⟨rfl, hx1⟩
    have HX := Lib.hid (HX0.out.trans hx1)
    clear hx1 hW0
    go_wp2
    go_ret3
    exact BlackRet.no HX.out
  · rw [h] at HIO
    obtain ⟨q1, q2, q3, q4, _⟩ := picOk_spec h
    cases hk : inB kind 0 2
    · rw [hk] at HK
      have e : someOk ss kind = false := by unfold someOk askOk; rw [hk]; simp
      rw [e]
      clear h e hk
      go_enter Try.func67, Try.ntmps67
      go_wp2_with fail
      rw [← hW0]
      refine HIO.out.mono ?_
      rintro e w1 ⟨b, ab, rfl, hx1, hi1, _⟩
      clear hi1
      go_wp2_with fail
      refine (HK.out _).mono ?_
      rintro e w2 ⟨rfl, hx2⟩
      have HX := Lib.hid (HX0.out.trans (hx1.trans hx2))
      clear hx1 hx2 hW0
      go_wp2
      go_ret3
      exact BlackRet.no HX.out
    · rw [hk] at HK
      have e : someOk ss kind = decide (0 < (spotsTo (picW ss) (picL ss) (ss.length * picW ss)).length) := by unfold someOk askOk; rw [hk, h]; rfl
      rw [e]
      clear h e hk
      have HC : Hid (∀ w' b ab, Img w' b ab (picW ss) ss.length (picL ss) → Calls Try.prog 125 #[.pointer (some ⟨b, 0, none⟩)] w' fun e w'' => e = .returned (.int .i64 (spotsTo (picW ss) (picL ss) (ss.length * picW ss)).length) ∧ w'.Ext w'') := fun w' b ab hI => count_any b ab _ _ _ w' (by omega) (by omega) hI
      have HS : Hid (∀ w' b ab, Img w' b ab (picW ss) ss.length (picL ss) → Calls Try.prog 82 #[.pointer (some ⟨b, 0, none⟩)] w' (PairsRet w' (spotsTo (picW ss) (picL ss) (ss.length * picW ss)))) := fun w' b ab hI => spots_any b ab _ _ _ w' (by omega) (by omega) hI
      generalize spotsTo (picW ss) (picL ss) (ss.length * picW ss) = ps at *
      by_cases hpos : 0 < ps.length
      · have hne : ((ps.length : Int) == 0) = false := by rw [beq_eq_false_iff_ne]; omega
        rw [decide_eq_true hpos]
        go_enter Try.func67, Try.ntmps67
        go_wp2_with fail
        rw [← hW0]
        refine HIO.out.mono ?_
        rintro e w1 ⟨b, ab, rfl, hx1, hi1, _⟩
        have HI := Lib.hid hi1
        clear hi1
        go_wp2_with fail
        refine (HK.out _).mono ?_
        rintro e w2 ⟨rfl, hx2⟩
        go_wp2_with fail
        refine (HC.out _ b ab (HI.out.ext hx2)).mono ?_
        rintro e w3 ⟨rfl, hx3⟩
        go_wp2_with fail
        refine (HS.out _ b ab ((HI.out.ext hx2).ext hx3)).mono ?_
        rintro e w4 ⟨a4, c4, rfl, hx4, ho4⟩
        have HR := Lib.hid (And.intro (HX0.out.trans (hx1.trans (hx2.trans (hx3.trans hx4)))) (And.intro ((HI.out.ext hx2).ext (hx3.trans hx4)) ho4.row))
        clear hx1 hx2 hx3 hx4 ho4 hW0
        go_wp2
        go_ret3
        exact BlackRet.yes HR.out.1 HR.out.2.1 HR.out.2.2
      · have h0 : ps.length = 0 := by omega
        have hne : ((ps.length : Int) == 0) = true := by rw [h0]; rfl
        rw [decide_eq_false hpos]
        clear h0
        go_enter Try.func67, Try.ntmps67
        go_wp2_with fail
        rw [← hW0]
        refine HIO.out.mono ?_
        rintro e w1 ⟨b, ab, rfl, hx1, hi1, _⟩
        have HI := Lib.hid hi1
        clear hi1
        go_wp2_with fail
        refine (HK.out _).mono ?_
        rintro e w2 ⟨rfl, hx2⟩
        go_wp2_with fail
        refine (HC.out _ b ab (HI.out.ext hx2)).mono ?_
        rintro e w3 ⟨rfl, hx3⟩
        have HX := Lib.hid (HX0.out.trans (hx1.trans (hx2.trans hx3)))
        clear hx1 hx2 hx3 hW0
        go_wp2
        go_ret3
        exact BlackRet.no HX.out
end Go.Proofs.Ytlnklcjnjfmknaa
